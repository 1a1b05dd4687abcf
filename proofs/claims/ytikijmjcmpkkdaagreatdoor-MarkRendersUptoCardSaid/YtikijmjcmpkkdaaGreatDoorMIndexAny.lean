/-
  strings.IndexRune at a rune beyond ASCII over ASCII bytes; strings.IndexAny at ASCII chars and any string.
-/
import Derived.Test.YtikijmjcmpkkdaaGreatDoorBytes
import Derived.Test.YtikijmjcmpkkdaaGreatDoorShelf
import Derived.Laws.Runes
import Derived.Laws.RangeAny
import Derived.Lib.OthersKept
import Derived.Lib.IndexAny
import Derived.Deep.DeepMust
import Derived.Deep.LoopGhost
import Derived.BigQuiet
import Derived.Deep.QuietTactic
import Derived.Laws.Strings2
import Derived.WalkSpells
import Derived.Outline
import Derived.IntWalk
namespace Go.Proofs.YtikijmjcmpkkdaaGreatDoor
open Go.RowKit Go.Deep

def Asc (s : ByteArray) : Prop := ∀ b ∈ s.data.toList, b.toNat < 128

theorem indexByte_noA {l : List UInt8} {c : UInt8} (h : ∀ b ∈ l, b ≠ c) : Lib.indexByte l c = -1 := by
  induction l with
  | nil => rfl
  | cons b l ih =>
    have hb : (b == c) = false := by simpa using h b (List.mem_cons_self ..)
    rw [Lib.indexByte, hb, ih (fun x hx => h x (List.mem_cons_of_mem _ hx))]
    rfl
theorem quietAdd {P : Program} {f : FuncId} {args : Array Value} {w : World} {a n : Nat} {v : Value} (h : Calls P f args (w.drewN (a + n)) fun e w' => e = .returned v ∧ w' = w.drewN (a + n)) :
    Calls P f args (w.drewN (a + n)) fun e w'' => e = .returned v ∧ ∃ m, w'' = w.drewN (a + m) := h.mono fun _ _ h => ⟨h.1, n, h.2⟩
theorem indexByte_high (s : ByteArray) (a e : Nat) (c : UInt8) (n : Int) (w : World) (ha : Asc s) (hn : (c.toNat : Int) = n) (hc : 128 ≤ c.toNat) :
    Calls Tryz.prog 138 #[.string (s.extract a e), .int .u8 n] w fun e w' => e = .returned (.int .i64 (-1)) ∧ w' = w := by
  subst hn
  have hback : ((c.toNat : Int)).toNat.toUInt8 = c := by simp
  refine (Tryz.strings_IndexByte (s.extract a e) (c.toNat : Int) w).mono fun e w' ⟨he, hw⟩ => ⟨?_, hw⟩
  rw [he, hback, indexByte_noA (fun b hb hbc => by have := ha b (mem_extract hb); rw [hbc] at this; omega)]

set_option maxRecDepth 100000 in
set_option maxHeartbeats 2000000 in
theorem indexRune_high (s : ByteArray) (r : Int) (w : World) (ha : Asc s) (h1 : 128 ≤ r) (hv : Utf8.valid r = true) (hne : r ≠ 65533) :
    Calls Tryz.prog 148 #[.string s, .int .i32 r] w fun e w' => e = .returned (.int .i64 (-1)) ∧ Below w.heap.size w w' := by
  obtain ⟨hf1, hf2, hf3⟩ := encode_facts r hv h1
  obtain ⟨rs, hrs⟩ : ∃ rs, Utf8.encode r = rs := ⟨_, rfl⟩
  rw [hrs] at hf1 hf2 hf3
  have hr0 : 0 ≤ r := by omega
  have hr1 : ¬ r < 128 := by omega
  have hb : (r == 65533) = false := by simpa using hne
  have hvr : Lib.validRune r = true := by
    rw [Utf8.valid] at hv
    simp only [Lib.validRune, decide_eq_true_eq]
    simp at hv
    omega
  have HV := Lib.hid hvr; clear hvr
  have HA := Lib.hid ha; clear ha
  have hf4 := hf3 (by omega)
  clear hf3 hv hne
  obtain ⟨m, hm⟩ : ∃ m : Nat, rs.size = m + 1 := ⟨rs.size - 1, by omega⟩
  have hm1 : (rs.size : Int) - 1 = (m : Int) := by omega
  have hmr : m < rs.size := by omega
  have hf5 : 128 ≤ (rs[m]'hmr).toNat := by
    have e : rs.size - 1 = m := by omega
    simpa only [e] using hf4
  have HM := Lib.hid hm; clear hm hf4
  go_enter Tryz.func148, Tryz.ntmps148
  go_wp2_with (go_at_call 177; go_must (refine (Tryz.utf8_ValidRune r _).mono ?_); rintro e w1 ⟨rfl, hw⟩; rw [HV.out, hw])
  go_step3
  go_wp2_with fail
  go_loopw [4, 9] (fun t4 t9 wr => t9 = .int .i64 (m : Int) ∧ t4 = .int .i64 0 ∧ EqW wr w) (fun _ _ _ => 0)
  case atStart => exact ⟨rfl, rfl, EqW.refl _⟩
  case round =>
    obtain ⟨rfl, rfl, hww⟩ := hrel
    unfold EqW at hww
    subst hww
    by_cases hlt : m < s.size
    · have hc1 : (s[m]'hlt).toNat < 128 := HA.out _ (Array.getElem_mem_toList (xs := s.data) hlt)
      have hne : ((s[m].toNat : Int) != (rs[m].toNat : Int)) = true := by simp; omega
      go_wp2_with fail
      go_step3
      go_wp2_with fail
      go_quiet (fail)
      go_wp2_with fail
      have hle : (m : Int) + 1 ≤ (s.size : Int) := by omega
      have h01 : 0 ≤ (m : Int) + 1 := by omega
      have htn : ((m : Int) + 1).toNat = m + 1 := by omega
      have hsum : IntKind.i64.wrap ((m : Int) + 1) = (m : Int) + 1 := IntWalk.i64_in _ (by omega)
      go_quiet ((go_at_call 138; exact quietAdd (indexByte_high s _ _ rs[m] _ _ HA.out rfl hf5)))
      go_wp2_with fail
      rw [Exit.noGoto_ret]
      simp only [Exit.inBlock]
      go_wp2_with fail
      rw [Exit.noGoto_ret]
      simp only [Exit.inBlock]
      first | go_ret | (go_wp2_with fail; go_ret)
      exact ⟨rfl, Below.drewN' (Below.refl _ _) _⟩
    · go_wp2_with fail
      first | (rw [Exit.noGoto_ret]; go_ret) | go_ret
      exact ⟨rfl, Below.refl _ _⟩

/-- what a rune beyond ASCII takes: a rune that is valid, bytes beyond ASCII alone -/
def Skip (s : ByteArray) (pos : Nat) (d : Nat × Nat) : Prop := 128 ≤ d.1 ∧ Utf8.valid (d.1 : Int) = true ∧ 1 ≤ d.2 ∧ pos + d.2 ≤ s.size ∧ ∀ (j : Nat) (b : UInt8), pos ≤ j → j < pos + d.2 → s.data.toList[j]? = some b → 128 ≤ b.toNat
theorem decode_skip (s : ByteArray) (pos : Nat) (h : pos < s.size) (ha : 128 ≤ (s[pos]'h).toNat) : Skip s pos (Utf8.decode s pos) := by
  have hn : ¬ (s[pos]'h).toNat < 128 := by omega
  have hat : ∀ (k : Nat) (b : UInt8), s.data.toList[pos + k]? = some b → s.get! (pos + k) = b := by
    intro k b hb
    obtain ⟨h1, h2⟩ := List.getElem?_eq_some_iff.1 hb
    rw [size_toList] at h1
    rw [← h2]
    show s.data[pos + k]! = _
    rw [getElem!_pos s.data (pos + k) h1]
    rfl
  have h0 : ∀ b, s.data.toList[pos]? = some b → 128 ≤ b.toNat := by
    intro b hb
    obtain ⟨h1, h2⟩ := List.getElem?_eq_some_iff.1 hb
    rw [← h2]
    exact ha
  have one : Skip s pos (65533, 1) := by
    refine ⟨by decide, by decide, by decide, by simp; omega, fun j b h1 h2 hb => ?_⟩
    simp only at h2
    obtain rfl : j = pos := by omega
    exact h0 b hb
  have c128 : ∀ (k : Nat) (b : UInt8), (s.get! (pos + k)).toNat / 64 = 2 → s.data.toList[pos + k]? = some b → 128 ≤ b.toNat := by
    intro k b h1 hb
    rw [hat k b hb] at h1
    omega
  simp only [Utf8.decode, get_at s pos h, hn, if_false]
  split
  · rename_i hc
    simp only [Bool.and_eq_true, beq_iff_eq, decide_eq_true_eq] at hc
    obtain ⟨_, hk1, hc1⟩ := hc
    split
    · rename_i hv
      refine ⟨by simpa using hv, ?_, by simp, by simp; omega, fun j b h1 h2 hb => ?_⟩
      · simp [Utf8.valid]; omega
      · simp only at h2
        rcases Nat.lt_or_ge pos j with h3 | h3
        · obtain rfl : j = pos + 1 := by omega
          exact c128 1 b hc1 hb
        · obtain rfl : j = pos := by omega
          exact h0 b hb
    · exact one
  split
  · rename_i hc
    simp only [Bool.and_eq_true, beq_iff_eq, decide_eq_true_eq] at hc
    obtain ⟨⟨_, hk1, hc1⟩, hk2, hc2⟩ := hc
    split
    · rename_i hv
      simp only [Bool.and_eq_true, decide_eq_true_eq] at hv
      refine ⟨by have := hv.1; simp at this ⊢; omega, by simpa using hv.2, by simp, by simp; omega, fun j b h1 h2 hb => ?_⟩
      simp only at h2
      rcases (show j = pos ∨ j = pos + 1 ∨ j = pos + 2 by omega) with rfl | rfl | rfl
      · exact h0 b hb
      · exact c128 1 b hc1 hb
      · exact c128 2 b hc2 hb
    · exact one
  split
  · rename_i hc
    simp only [Bool.and_eq_true, beq_iff_eq, decide_eq_true_eq] at hc
    obtain ⟨⟨⟨_, hk1, hc1⟩, hk2, hc2⟩, hk3, hc3⟩ := hc
    split
    · rename_i hv
      simp only [Bool.and_eq_true, decide_eq_true_eq] at hv
      refine ⟨by have := hv.1; simp at this ⊢; omega, by simpa using hv.2, by simp, by simp; omega, fun j b h1 h2 hb => ?_⟩
      simp only at h2
      rcases (show j = pos ∨ j = pos + 1 ∨ j = pos + 2 ∨ j = pos + 3 by omega) with rfl | rfl | rfl | rfl
      · exact h0 b hb
      · exact c128 1 b hc1 hb
      · exact c128 2 b hc2 hb
      · exact c128 3 b hc3 hb
    · exact one
  · exact one

set_option maxRecDepth 100000 in
set_option maxHeartbeats 2000000 in
theorem indexRune_err (s : ByteArray) (w : World) (ha : Asc s) :
    Calls Tryz.prog 148 #[.string s, .int .i32 65533] w fun e w' => e = .returned (.int .i64 (-1)) ∧ Below w.heap.size w w' := by
  have HA := Lib.hid ha; clear ha
  go_enter Tryz.func148, Tryz.ntmps148
  go_wp2_with fail
  go_loopg [5, 6] s.size (fun g _ _ wx => ∃ i : Nat, i + g = s.size ∧ wx = w.iter s i)
  case atStart => exact ⟨0, by omega, rfl⟩
  case round =>
    obtain ⟨i, hig, rfl⟩ := hrel
    cases gk with
    | zero =>
      obtain rfl : i = s.size := by omega
      have hnx := run_next_end (P := Tryz.prog) w s s.size
      go_wp2_with fail
      go_ret
      exact ⟨rfl, (Below.refl _ _).alloc (Nat.le_refl _) _⟩
    | succ g =>
      have hi : i < s.size := by omega
      have hx128 : (s[i]'hi).toNat < 128 := HA.out _ (Array.getElem_mem_toList (xs := s.data) hi)
      have hnx := fun ty => run_next_ascii (P := Tryz.prog) w s i ty hi hx128
      have hne : ((s[i].toNat : Int) == 65533) = false := by simp; omega
      go_wp2_with fail
      go_roundg g
      case measure => omega
      case rel => exact ⟨i + 1, by omega, rfl⟩

theorem indexRune_beyond (s : ByteArray) (r : Int) (w : World) (ha : Asc s) (h1 : 128 ≤ r) (hv : Utf8.valid r = true) :
    Calls Tryz.prog 148 #[.string s, .int .i32 r] w fun e w' => e = .returned (.int .i64 (-1)) ∧ Below w.heap.size w w' := by
  by_cases h : r = 65533
  · subst h; exact indexRune_err s w ha
  · exact indexRune_high s r w ha h1 hv h

set_option maxRecDepth 100000 in
set_option maxHeartbeats 4000000 in
theorem indexAny_short (s chars : ByteArray) (w : World) (h2 : 2 ≤ chars.size) (h8 : s.size ≤ 8) (ha : Asc chars) :
    Calls Tryz.prog 105 #[.string s, .string chars] w fun e w' => e = .returned (.int .i64 (Lib.indexAny s.data.toList chars.data.toList)) ∧ Below w.heap.size w w' := by
  have HA := Lib.hid ha; clear ha
  have hemp : chars.toList.isEmpty = false := by
    rw [Go.ByteArray.toList_eq]
    cases h : chars.data.toList with
    | nil => have := size_toList chars; rw [h, List.length_nil] at this; omega
    | cons _ _ => rfl
  have hn1 : ((chars.size : Int) == 1) = false := beq_eq_false_iff_ne.2 (by omega)
  have h8z : decide ((8 : Int) < (s.size : Int)) = false := decide_eq_false (by omega)
  go_enter Tryz.func105, Tryz.ntmps105
  go_wp2_with (go_at_call 149; go_must (refine (Tryz.strings_shouldUseASCIISet _ _).mono ?_); rintro e w' ⟨rfl, hw⟩; rw [hw, h8z])
  go_loopg [9, 10] s.size (fun g _ _ wx => ∃ i : Nat, i + g = s.size ∧ Hid (wx.heap[w.heap.size]? = some (.stringIter s i)) ∧ Hid (Below w.heap.size w wx) ∧ Hid (Lib.NoAny s.data.toList chars.data.toList i))
  case atStart => exact ⟨0, by omega, heap_alloc_new w _, (Below.refl _ _).alloc (Nat.le_refl _) _, Lib.NoAny.zero _ _⟩
  case round =>
    obtain ⟨i, hig, HI, HB, HN⟩ := hrel
    cases gk with
    | zero =>
      obtain rfl : i = s.size := by omega
      have hnx := fun ty => Lib.run_next_end_at (P := Tryz.prog) wr w.heap.size s s.size ty HI.out (by omega)
      go_wp2_with fail
      go_ret
      exact ⟨by rw [Lib.indexAny_none (by rw [size_toList]; exact HN.out)]; rfl, HB.out⟩
    | succ g =>
      have hi : i < s.size := by omega
      have hxl : s.data.toList[i]? = some (s[i]'hi) := List.getElem?_eq_getElem (by rw [size_toList]; exact hi)
      have HX := Lib.hid hxl; clear hxl
      have HI2 := fun p => Lib.hid (Lib.iterAt_heap wr w.heap.size s i p HI.out)
      have HB2 := fun p => Lib.hid (Lib.below_iterAt HB.out (Nat.le_refl _) s p)
      by_cases hx : (s[i]'hi).toNat < 128
      · have hnx := fun ty => Lib.run_next_ascii_at (P := Tryz.prog) wr w.heap.size s i ty HI.out hi hx
        have HI3 := HI2 (i + 1)
        have HB3 := HB2 (i + 1)
        clear HI2 HB2
        obtain ⟨x, hxx⟩ : ∃ x : UInt8, (s[i]'hi) = x := ⟨_, rfl⟩
        rw [hxx] at HX hx hnx
        clear hxx
        have hcon := Lib.contains_iff_indexByte chars.data.toList x
        have hback : ((x.toNat : Int)).toNat.toUInt8 = x := by simp
        cases hin : chars.data.toList.contains x
        · rw [hin] at hcon
          have hlt : ¬ ((0 : Int) ≤ Lib.indexByte chars.data.toList x) := of_decide_eq_false hcon.symm
          have HN2 := Lib.hid (HN.out.succ HX.out hin)
          clear hcon hin
          go_wp2_with (go_at_call 148; refine (Tryz.strings_IndexRune_ascii _ _ _ (by omega) (by omega)).mono ?_; rintro e w' ⟨rfl, hw⟩; rw [hw, hback])
          go_roundg g
          case measure => omega
          case rel => exact ⟨i + 1, by omega, HI3.out, HB3.out, HN2.out⟩
        · rw [hin] at hcon
          have hge : (0 : Int) ≤ Lib.indexByte chars.data.toList x := of_decide_eq_true hcon.symm
          have HH := Lib.hid (Lib.indexAny_hit HN.out HX.out hin)
          clear hcon hin
          go_wp2_with (go_at_call 148; refine (Tryz.strings_IndexRune_ascii _ _ _ (by omega) (by omega)).mono ?_; rintro e w' ⟨rfl, hw⟩; rw [hw, hback])
          go_ret
          exact ⟨by rw [HH.out]; rfl, HB3.out⟩
      · have hsk := decode_skip s i hi (by omega)
        have hnx := fun ty => Lib.run_next_any_at (P := Tryz.prog) wr w.heap.size s i ty HI.out hi
        obtain ⟨⟨r, wd⟩, hd⟩ : ∃ d, Utf8.decode s i = d := ⟨_, rfl⟩
        rw [hd] at hsk hnx
        clear hd hx
        obtain ⟨hs1, hs2, hs3, hs4, hs5⟩ := hsk
        simp only at hs1 hs2 hs3 hs4 hs5 hnx
        have HI3 := HI2 (i + wd)
        have HB3 := HB2 (i + wd)
        clear HI2 HB2
        have HN2 := Lib.hid (show Lib.NoAny s.data.toList chars.data.toList (i + wd) from fun j b hj hb => by
          rcases Nat.lt_or_ge j i with h3 | h3
          · exact HN.out j b h3 hb
          · have h4 := hs5 j b h3 hj hb
            cases h5 : chars.data.toList.contains b
            · rfl
            · have := HA.out b (by simpa using h5)
              omega)
        clear hs5
        have HV := Lib.hid hs2; clear hs2
        go_wp2_with (go_at_call 148; refine (indexRune_beyond chars r _ HA.out (by omega) HV.out).mono ?_; rintro e w' ⟨rfl, hb⟩; have HB4 := Lib.hid (HB3.out.trans (hb.mono HB3.out.size)); have HI4 := Lib.hid ((hb.block _ (Array.getElem?_eq_some_iff.1 HI3.out).1).trans HI3.out); clear hb)
        go_roundg (s.size - (i + wd))
        case measure => omega
        case rel => exact ⟨i + wd, by omega, HI4.out, HB4.out, HN2.out⟩

theorem indexAny_q (s chars : ByteArray) (w : World) (hs : s.size ≤ 1048576) (h2 : 2 ≤ chars.size) (hc : chars.size ≤ 1000) (ha : Asc chars) :
    Calls Tryz.prog 105 #[.string s, .string chars] w fun e w' => e = .returned (.int .i64 (Lib.indexAny s.data.toList chars.data.toList)) ∧ Below w.heap.size w w' := by
  by_cases h8 : 8 < s.size
  · refine (Tryz.strings_IndexAny_long (fun w => by kernel_rfl) s chars w h2 h8 (by omega) (by omega) (fun j b hb => ha b (List.mem_of_getElem? hb))).mono fun e w' ⟨he, hw⟩ => ⟨he, ?_⟩
    rw [hw]
    exact ((Below.refl _ _).alloc (Nat.le_refl _) _).alloc (by rw [World.size_alloc]; omega) _
  · exact indexAny_short s chars w h2 (by omega) ha

end Go.Proofs.YtikijmjcmpkkdaaGreatDoor
