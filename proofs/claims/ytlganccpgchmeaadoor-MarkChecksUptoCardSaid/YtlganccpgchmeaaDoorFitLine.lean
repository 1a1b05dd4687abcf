/-
  Lines of a text, lines that end a fence: mark and mastref1.
-/
import Derived.Test.YtlganccpgchmeaaDoorFitStr
namespace Go.Proofs.YtlganccpgchmeaaDoor
open Go.RowKit Go.Deep

def MaxA (w : World) : Prop := ∃ m, w.cell? ⟨1, 0, none⟩ = some (.int .i64 m)
theorem MaxA.keep {w w' : World} (h : MaxA w) (k : Keeps w w') : MaxA w' := by obtain ⟨m, hm⟩ := h; exact ⟨m, k _ _ hm⟩
theorem trim_r (s : ByteArray) (w : World) (hs : s.size ≤ 1073741824) : Calls Tryd.prog 90 #[.string s] w fun e w' => (∃ z : ByteArray, e = .returned (.string z) ∧ z.data.toList = stripL (stripR s.data.toList)) ∧ Below w.heap.size w w' := by
  have HT := Lib.hid (Any.strings_Trim_laid Tryd.lays160 (by kernel_rfl) s ⟨#[32, 9]⟩ w (by omega) (by decide) (ascii_of_all (by decide)))
  go_enter Tryd.func90, Tryd.ntmps90
  go_wp2_with (go_at_call 47; go_must (refine HT.out.mono ?_); rintro e w1 ⟨rfl, hb⟩)
  go_ret
  exact ⟨⟨_, rfl, trimS_strip _⟩, hb⟩
theorem nil_str {z : ByteArray} (h : z.data.toList = []) : z = ⟨#[]⟩ := Go.WideShapes.bytes_inj h
theorem cons_size {z : ByteArray} (h : ¬ z.data.toList = []) : 0 < z.size := by
  rw [← size_toList]
  exact List.length_pos_iff.2 h

set_option maxHeartbeats 1000000 in
theorem allBlank_q (s : ByteArray) (v : Bool) (w : World) (hs : s.size ≤ 1073741824) (h : s.data.toList.all blkB = v) : Calls Tryd.prog 79 #[.string s] w fun e w' => e = .returned (.bool v) ∧ Below w.heap.size w w' := by
  have HT := Lib.hid (trim_q s w hs)
  have HV := Lib.hid h
  clear h
  cases v with
  | true =>
    go_enter Tryd.func79, Tryd.ntmps79
    go_wp2_with fail
    refine HT.out.mono ?_
    rintro e w1 ⟨⟨z, rfl, hz⟩, hb⟩
    obtain rfl := nil_str (hz.trans ((markStrip_nil _).2 HV.out))
    have HB := Lib.hid (show Below w.heap.size w w1 from hb ▸ Below.refl _ _)
    clear hb
    go_wp2_with fail
    go_ret
    exact ⟨rfl, HB.out⟩
  | false =>
    go_enter Tryd.func79, Tryd.ntmps79
    go_wp2_with fail
    refine HT.out.mono ?_
    rintro e w1 ⟨⟨z, rfl, hz⟩, hb⟩
    obtain ⟨f1, f2, f3, f4⟩ := nonempty_forms (cons_size (z := z) (fun h => by have := (markStrip_nil _).1 (hz.symm.trans h); rw [HV.out] at this; cases this))
    have HB := Lib.hid (show Below w.heap.size w w1 from hb ▸ Below.refl _ _)
    clear hb hz
    go_wp2_with fail
    go_ret
    exact ⟨rfl, HB.out⟩

theorem isFence_q (s : ByteArray) (v : Bool) (w : World) (h : Lib.hasPrefix s.data.toList [96, 96, 96] = v) : Calls Tryd.prog 103 #[.string s] w fun e w' => e = .returned (.bool v) ∧ w' = w := by
  have HT := Lib.hid (Tryd.strings_HasPrefix s ⟨#[96, 96, 96]⟩ w)
  have HV := Lib.hid h
  clear h
  go_enter Tryd.func103, Tryd.ntmps103
  go_wp2_with (go_at_call 109; go_must (refine HT.out.mono ?_); rintro e w1 ⟨rfl, rfl⟩)
  go_ret
  exact ⟨ret_bool HV.out, rfl⟩
set_option maxHeartbeats 1000000 in
theorem endsFence_q (s : ByteArray) (v : Bool) (w : World) (hs : s.size ≤ 1073741824) (h : endFB s.data.toList = v) : Calls Tryd.prog 80 #[.string s] w fun e w' => e = .returned (.bool v) ∧ Below w.heap.size w w' := by
  have HV := Lib.hid h
  clear h
  cases hp : Lib.hasPrefix s.data.toList [96, 96, 96] with
  | true =>
    have h3 : 3 ≤ s.size := by
      rw [← size_toList]
      have := (List.isPrefixOf_iff_prefix.1 hp).length_le
      simpa using this
    have hI : (3 : Int) ≤ (s.size : Int) := by omega
    obtain ⟨y, hy⟩ : ∃ y, s.extract 3 s.size = y := ⟨_, rfl⟩
    have hyl : y.data.toList = s.data.toList.drop 3 := by
      rw [← hy, ByteArray.data_extract, Array.toList_extract]
      simp only [List.extract]
      rw [List.take_of_length_le]
      rw [List.length_drop, size_toList]; exact Nat.le_refl _
    have hys : y.size ≤ 1073741824 := by rw [← hy, ByteArray.size_extract]; omega
    have HP := Lib.hid hp
    have HA := Lib.hid (allBlank_q y v · hys (by rw [hyl]; have := HV.out; unfold endFB at this; rw [hp, Bool.true_and] at this; exact this))
    clear hyl h3
    go_enter Tryd.func80, Tryd.ntmps80
    go_wp2_with (first
      | (go_at_call 103; go_must (refine (isFence_q s true _ HP.out).mono ?_); rintro e w1 ⟨rfl, hw1⟩; obtain rfl := hw1.symm)
      | (go_at_call 79; go_must (refine (HA.out _).mono ?_); rintro e w2 ⟨rfl, hb⟩))
    go_ret
    exact ⟨rfl, hb⟩
  | false =>
    have HP := Lib.hid hp
    have hv : v = false := by rw [← HV.out]; unfold endFB; rw [hp]; rfl
    subst hv
    go_enter Tryd.func80, Tryd.ntmps80
    go_wp2_with (go_at_call 103; go_must (refine (isFence_q s false _ HP.out).mono ?_); rintro e w1 ⟨rfl, hw1⟩; obtain rfl := hw1.symm)
    go_ret
    exact ⟨rfl, Below.refl _ _⟩

set_option maxHeartbeats 1000000 in
theorem empty_r (s : ByteArray) (v : Bool) (w : World) (hs : s.size ≤ 1073741824) (h : s.data.toList.all blkB = v) : Calls Tryd.prog 62 #[.string s] w fun e w' => e = .returned (.bool v) ∧ Below w.heap.size w w' := by
  have HT := Lib.hid (trim_r s w hs)
  have HV := Lib.hid h
  clear h
  cases v with
  | true =>
    go_enter Tryd.func62, Tryd.ntmps62
    go_wp2_with fail
    refine HT.out.mono ?_
    rintro e w1 ⟨⟨z, rfl, hz⟩, hb⟩
    obtain rfl := nil_str (hz.trans ((strip_nil _).2 HV.out))
    have HB := Lib.hid (show Below w.heap.size w w1 from hb)
    clear hb
    go_wp2_with fail
    go_ret
    exact ⟨rfl, HB.out⟩
  | false =>
    go_enter Tryd.func62, Tryd.ntmps62
    go_wp2_with fail
    refine HT.out.mono ?_
    rintro e w1 ⟨⟨z, rfl, hz⟩, hb⟩
    obtain ⟨f1, f2, f3, f4⟩ := nonempty_forms (cons_size (z := z) (fun h => by have := (strip_nil _).1 (hz.symm.trans h); rw [HV.out] at this; cases this))
    have HB := Lib.hid (show Below w.heap.size w w1 from hb)
    clear hb hz
    go_wp2_with fail
    go_ret
    exact ⟨rfl, HB.out⟩

theorem fenced_r (s : ByteArray) (v : Bool) (w : World) (h : Lib.hasPrefix s.data.toList [96, 96, 96] = v) : Calls Tryd.prog 91 #[.string s] w fun e w' => e = .returned (.bool v) ∧ w' = w := by
  have HT := Lib.hid (Tryd.strings_HasPrefix s ⟨#[96, 96, 96]⟩ w)
  have HV := Lib.hid h
  clear h
  go_enter Tryd.func91, Tryd.ntmps91
  go_wp2_with (go_at_call 109; go_must (refine HT.out.mono ?_); rintro e w1 ⟨rfl, rfl⟩)
  go_ret
  exact ⟨ret_bool HV.out, rfl⟩
set_option maxHeartbeats 1000000 in
theorem fenceEnd_r (s : ByteArray) (v : Bool) (w : World) (hs : s.size ≤ 1073741824) (h : endFB s.data.toList = v) : Calls Tryd.prog 63 #[.string s] w fun e w' => e = .returned (.bool v) ∧ Below w.heap.size w w' := by
  have HV := Lib.hid h
  clear h
  cases hp : Lib.hasPrefix s.data.toList [96, 96, 96] with
  | true =>
    have h3 : 3 ≤ s.size := by
      rw [← size_toList]
      have := (List.isPrefixOf_iff_prefix.1 hp).length_le
      simpa using this
    have hI : (3 : Int) ≤ (s.size : Int) := by omega
    obtain ⟨y, hy⟩ : ∃ y, s.extract 3 s.size = y := ⟨_, rfl⟩
    have hyl : y.data.toList = s.data.toList.drop 3 := by
      rw [← hy, ByteArray.data_extract, Array.toList_extract]
      simp only [List.extract]
      rw [List.take_of_length_le]
      rw [List.length_drop, size_toList]; exact Nat.le_refl _
    have hys : y.size ≤ 1073741824 := by rw [← hy, ByteArray.size_extract]; omega
    have HP := Lib.hid hp
    have HA := Lib.hid (empty_r y v · hys (by rw [hyl]; have := HV.out; unfold endFB at this; rw [hp, Bool.true_and] at this; exact this))
    clear hyl h3
    go_enter Tryd.func63, Tryd.ntmps63
    go_wp2_with (first
      | (go_at_call 91; go_must (refine (fenced_r s true _ HP.out).mono ?_); rintro e w1 ⟨rfl, hw1⟩; obtain rfl := hw1.symm)
      | (go_at_call 62; go_must (refine (HA.out _).mono ?_); rintro e w2 ⟨rfl, hb⟩))
    go_ret
    exact ⟨rfl, hb⟩
  | false =>
    have HP := Lib.hid hp
    have hv : v = false := by rw [← HV.out]; unfold endFB; rw [hp]; rfl
    subst hv
    go_enter Tryd.func63, Tryd.ntmps63
    go_wp2_with (go_at_call 91; go_must (refine (fenced_r s false _ HP.out).mono ?_); rintro e w1 ⟨rfl, hw1⟩; obtain rfl := hw1.symm)
    go_ret
    exact ⟨rfl, Below.refl _ _⟩

/-- lines as they are handed back -/
def LinesPost (s : ByteArray) (w : World) (e : Ending) (w' : World) : Prop :=
  ∃ (A : Option Addr) (n c : Nat), e = .returned (.slice A n c) ∧ (linesB s).length = n ∧ OnesAt w' (.slice A n c) ((linesB s).map Value.string) ∧ Below w.heap.size w w'
theorem countB_le (s : ByteArray) : Lib.countB s ⟨#[10]⟩ ≤ s.size := by
  have key : ∀ (k : Nat) (s : ByteArray), s.size ≤ k → Lib.countB s ⟨#[10]⟩ ≤ s.size := by
    intro k
    induction k with
    | zero =>
      intro s h
      rcases Lib.indexB_cases s ⟨#[10]⟩ with hi | ⟨i, hi, hl⟩
      · rw [Lib.countB_miss _ _ hi]; exact Nat.zero_le _
      · have : (⟨#[10]⟩ : ByteArray).size = 1 := rfl
        omega
    | succ k ih =>
      intro s h
      rcases Lib.indexB_cases s ⟨#[10]⟩ with hi | ⟨i, hi, hl⟩
      · rw [Lib.countB_miss _ _ hi]; exact Nat.zero_le _
      · have h1 : (⟨#[10]⟩ : ByteArray).size = 1 := rfl
        rw [Lib.countB_hit _ _ i (by decide) hi]
        have h2 := ih (s.extract (i + (⟨#[10]⟩ : ByteArray).size) s.size) (by rw [ByteArray.size_extract, h1]; omega)
        rw [ByteArray.size_extract] at h2
        omega
  exact key _ s (Nat.le_refl _)
theorem split_lines (s b : ByteArray) (w : World) (h0 : ¬ s.size = 0) (hb : baseT s = b) (hs : s.size ≤ 1073741824) (hm : MaxA w) : Calls Tryd.prog 89 #[.string b, .string ⟨#[10]⟩] w (LinesPost s w) := by
  obtain ⟨m, hm⟩ := hm
  subst hb
  have hbs := baseT_size s
  refine (Tryd.strings_Split (baseT s) ⟨#[10]⟩ m w (by omega) hm (by decide)).mono fun e w' ⟨h1, h2⟩ => ?_
  subst h1 h2
  have hl := linesB_len h0
  have hc := countB_le (baseT s)
  have hL : linesB s = Lib.splitB ⟨#[10]⟩ 0 (Lib.countB (baseT s) ⟨#[10]⟩) (baseT s) := by unfold linesB; rw [if_neg h0]
  refine ⟨_, _, _, rfl, hl, ⟨some ⟨w.heap.size, 0, none⟩, _, w.heap.size, 0, by rw [List.length_map, hl], by rw [List.length_map, hl]; exact Nat.le_refl _, by unfold maxLen; omega, fun _ => rfl, fun i x hx => ?_⟩, (Below.refl _ _).alloc (Nat.le_refl _) _⟩
  rw [Nat.zero_add, World.cell?_alloc_at _ _ _ _ rfl, ← hL]
  simpa using hx
theorem ones_none (w : World) {xs : List Value} (h : xs = []) : OnesAt w (.slice none 0 0) xs := by rw [h]; exact OnesAt.nil w
set_option maxHeartbeats 1000000 in
theorem lines_q (s : ByteArray) (w : World) (hs : s.size ≤ 1073741824) (hm : MaxA w) : Calls Tryd.prog 78 #[.string s] w (LinesPost s w) := by
  by_cases h0 : 0 < s.size
  · obtain ⟨f1, f2, f3, f4⟩ := nonempty_forms h0
    have HT := Lib.hid (Tryd.strings_TrimSuffix s ⟨#[10]⟩ w (by omega))
    have HS := Lib.hid (split_lines s (baseT s) w (by omega) rfl hs hm)
    clear hm
    go_enter Tryd.func78, Tryd.ntmps78
    go_wp2_with (first
      | (go_at_call 102; go_must (refine HT.out.mono ?_); rintro e w1 ⟨rfl, hw1⟩; obtain rfl := hw1.symm)
      | (go_at_call 89; go_must (refine HS.out.mono ?_); rintro e w1 ⟨A, n, c, rfl, hp⟩))
    go_ret
    exact ⟨A, n, c, rfl, hp⟩
  · obtain rfl := empty_lit h0
    go_enter Tryd.func78, Tryd.ntmps78
    go_wp2_with fail
    go_ret
    exact ⟨none, 0, 0, rfl, rfl, ones_none _ rfl, Below.refl _ _⟩
set_option maxHeartbeats 1000000 in
theorem linesOf_r (s : ByteArray) (w : World) (hs : s.size ≤ 1073741824) (hm : MaxA w) : Calls Tryd.prog 61 #[.string s] w (LinesPost s w) := by
  have HH := Lib.hid (Tryd.strings_HasSuffix s ⟨#[10]⟩ · (by omega))
  by_cases h0 : 0 < s.size
  · obtain ⟨f1, f2, f3, f4⟩ := nonempty_forms h0
    cases hx : Lib.hasSuffix s.data.toList [10] with
    | true =>
      obtain ⟨m, hsm⟩ : ∃ m, s.size = m + 1 := ⟨s.size - 1, by omega⟩
      have hm1 : s.size - 1 = m := by omega
      have hI : (m : Int) ≤ (s.size : Int) := by omega
      have hbase : baseT s = s.extract 0 m := by
        apply Go.WideShapes.bytes_inj
        show Lib.trimSuffix s.data.toList [10] = _
        unfold Lib.trimSuffix
        rw [if_pos hx, ByteArray.data_extract, Array.toList_extract]
        simp [List.extract, hsm]
      have HS := Lib.hid (split_lines s (s.extract 0 m) w (by omega) hbase hs hm)
      have HX := Lib.hid hx
      clear hm hm1 hbase hx
      go_enter Tryd.func61, Tryd.ntmps61
      go_wp2_with (first
        | (go_at_call 46; go_must (refine (HH.out _).mono ?_); rw [HX.out]; rintro e w1 ⟨rfl, hw1⟩; obtain rfl := hw1.symm)
        | (go_at_call 89; go_must (refine HS.out.mono ?_); rintro e w1 ⟨A, n, c, rfl, hp⟩))
      go_ret
      exact ⟨A, n, c, rfl, hp⟩
    | false =>
      have hbase : baseT s = s := by
        apply Go.WideShapes.bytes_inj
        show Lib.trimSuffix s.data.toList [10] = _
        unfold Lib.trimSuffix
        rw [hx]; rfl
      have HS := Lib.hid (split_lines s s w (by omega) hbase hs hm)
      have HX := Lib.hid hx
      clear hm hbase hx
      go_enter Tryd.func61, Tryd.ntmps61
      go_wp2_with (first
        | (go_at_call 46; go_must (refine (HH.out _).mono ?_); rw [HX.out]; rintro e w1 ⟨rfl, hw1⟩; obtain rfl := hw1.symm)
        | (go_at_call 89; go_must (refine HS.out.mono ?_); rintro e w1 ⟨A, n, c, rfl, hp⟩))
      go_ret
      exact ⟨A, n, c, rfl, hp⟩
  · obtain rfl := empty_lit h0
    have HX := Lib.hid (show Lib.hasSuffix (⟨#[]⟩ : ByteArray).data.toList (⟨#[10]⟩ : ByteArray).data.toList = false from by decide)
    go_enter Tryd.func61, Tryd.ntmps61
    go_wp2_with (go_at_call 46; go_must (refine (HH.out _).mono ?_); rw [HX.out]; rintro e w1 ⟨rfl, hw1⟩; obtain rfl := hw1.symm)
    go_ret
    exact ⟨none, 0, 0, rfl, rfl, ones_none _ rfl, Below.refl _ _⟩
theorem hd_cons {z : ByteArray} {c : UInt8} {r : List UInt8} (h : z.data.toList = c :: r) : hdB z.data.toList = blkB c := by rw [h]; rfl
theorem lt_snoc {z : ByteArray} {c : UInt8} {r : List UInt8} (h : z.data.toList = r ++ [c]) : ltB z.data.toList = blkB c := by rw [h, ltB_snoc]
set_option maxHeartbeats 1000000 in
theorem blankEnds_r (s : ByteArray) (w : World) (a b : Bool) (ha : hdB s.data.toList = a) (hb : ltB s.data.toList = b) (hs : s.size ≤ 1073741824) : Calls Tryd.prog 59 #[.string s] w fun e w' => e = .returned (.tuple #[.bool a, .bool b]) ∧ w' = w := by
  by_cases h0 : 0 < s.size
  · obtain ⟨f1, f2, f3, f4⟩ := nonempty_forms h0
    obtain ⟨c, hc, hl⟩ := first_form h0
    obtain ⟨m, hm⟩ : ∃ m, s.size = m + 1 := ⟨s.size - 1, by omega⟩
    have hm2 : m < s.size := by omega
    obtain ⟨d, hd, hl2⟩ := last_form hm hm2
    have HA := Lib.hid ((hd_cons hl).symm.trans ha)
    have HD := Lib.hid ((lt_snoc hl2).symm.trans hb)
    clear hl hl2 ha hb
    go_enter Tryd.func59, Tryd.ntmps59
    go_wp2_with (first
      | (go_at_call_of 84 c; go_must (refine (isBlank_r c a _ HA.out).mono ?_); rintro e w1 ⟨rfl, hw1⟩; obtain rfl := hw1.symm)
      | (go_at_call_of 84 d; go_must (refine (isBlank_r d b _ HD.out).mono ?_); rintro e w1 ⟨rfl, hw1⟩; obtain rfl := hw1.symm))
    go_ret2
    exact ⟨rfl, rfl⟩
  · obtain rfl := empty_lit h0
    obtain rfl : a = false := ha.symm
    obtain rfl : b = false := hb.symm
    clear ha hb
    go_enter Tryd.func59, Tryd.ntmps59
    go_wp2_with fail
    go_ret2
    exact ⟨rfl, rfl⟩

end Go.Proofs.YtlganccpgchmeaaDoor
