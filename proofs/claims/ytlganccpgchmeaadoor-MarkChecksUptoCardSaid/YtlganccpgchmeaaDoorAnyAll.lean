/-
  strings.IndexRune at a rune beyond ASCII, strings.IndexAny and ContainsAny at whatever string, for three ASCII chars.
-/
import Derived.Test.YtlganccpgchmeaaDoorShelf
import Derived.Test.YtlganccpgchmeaaDoorBytes
import Derived.Laws.RangeAny
import Derived.Lib.OthersKept
import Derived.Deep.DeepMust
import Derived.Laws.Runes
import Derived.StillTailTactics
import Derived.WalkMore
import Derived.Laws.Strings2
import Derived.Lib.IndexAny
import Derived.Deep.Cut
import Derived.BigGuardPart
namespace Go.Proofs.YtlganccpgchmeaaDoor
open Go.RowKit Go.Deep

theorem ret_in {id : Nat} {Q : Exit → Act → World → Prop} {a : Act} {w : World} (h : Q .ret a w) : Exit.inBlock id Q .ret a w := h
theorem ret_then {K : Act → World → Prop} {Q : Exit → Act → World → Prop} {a : Act} {w : World} (h : Q .ret a w) : Exit.then K Q .ret a w := h
theorem ret_noGoto {Q : Exit → Act → World → Prop} {a : Act} {w : World} (h : Q .ret a w) : Exit.noGoto Q .ret a w := by rw [Exit.noGoto_ret]; exact h
theorem get_get (s : ByteArray) (k : Nat) (h : k < s.size) : s.get! k = s[k]'h := by
  simp only [ByteArray.get!, ByteArray.size] at *
  rw [getElem!_pos s.data k h]; rfl
/-- what decoding gives -/
theorem dec_any (s : ByteArray) (i : Nat) (h : i < s.size) :
    ((s[i]'h).toNat < 128 → Utf8.decode s i = ((s[i]'h).toNat, 1)) ∧
    (128 ≤ (s[i]'h).toNat → 128 ≤ (Utf8.decode s i).1 ∧ Utf8.valid ((Utf8.decode s i).1 : Int) = true ∧ 1 ≤ (Utf8.decode s i).2 ∧ i + (Utf8.decode s i).2 ≤ s.size ∧ ∀ j (hj : j < s.size), i ≤ j → j < i + (Utf8.decode s i).2 → 128 ≤ (s[j]'hj).toNat) := by
  have h0 := get_get s i h
  constructor
  · intro hb
    unfold Utf8.decode
    simp only [Nat.add_zero, h0]
    rw [if_pos hb]
  · intro hb
    have hc : ∀ k, (decide (i + k < s.size) && (s.get! (i + k)).toNat / 64 == 2) = true → i + k < s.size ∧ ∀ hj : i + k < s.size, 128 ≤ (s[i + k]'hj).toNat := by
      intro k hk
      simp only [Bool.and_eq_true, decide_eq_true_eq, beq_iff_eq] at hk
      refine ⟨hk.1, fun hj => ?_⟩
      have := get_get s (i + k) hj
      rw [← this]; omega
    have hb0 := (s[i]'h).toNat_lt
    have err : ∀ j (hj : j < s.size), i ≤ j → j < i + 1 → 128 ≤ (s[j]'hj).toNat := by
      intro j hj h1 h2
      obtain rfl : j = i := by omega
      exact hb
    unfold Utf8.decode
    simp only [Nat.add_zero, h0]
    rw [if_neg (by omega)]
    split
    · rename_i hx
      simp only [Bool.and_eq_true] at hx
      obtain ⟨c1, c2⟩ := hc 1 (by simpa using hx.2)
      have hl := (s.get! (i + 1)).toNat_lt
      split
      · rename_i hy
        refine ⟨hy, ?_, by omega, by omega, fun j hj h1 h2 => ?_⟩
        · simp only [Utf8.valid, Bool.or_eq_true, Bool.and_eq_true, decide_eq_true_eq]; left; omega
        · rcases (by omega : j = i ∨ j = i + 1) with rfl | rfl
          · exact hb
          · exact c2 hj
      · exact ⟨by decide, by decide, by omega, by omega, err⟩
    · split
      · rename_i hx
        simp only [Bool.and_eq_true] at hx
        obtain ⟨c1, c2⟩ := hc 1 (by simpa using hx.1.2)
        obtain ⟨d1, d2⟩ := hc 2 (by simpa using hx.2)
        split
        · rename_i hy
          simp only [Bool.and_eq_true, decide_eq_true_eq] at hy
          refine ⟨by omega, hy.2, by omega, by omega, fun j hj h1 h2 => ?_⟩
          rcases (by omega : j = i ∨ j = i + 1 ∨ j = i + 2) with rfl | rfl | rfl
          · exact hb
          · exact c2 hj
          · exact d2 hj
        · exact ⟨by decide, by decide, by omega, by omega, err⟩
      · split
        · rename_i hx
          simp only [Bool.and_eq_true] at hx
          obtain ⟨c1, c2⟩ := hc 1 (by simpa using hx.1.1.2)
          obtain ⟨d1, d2⟩ := hc 2 (by simpa using hx.1.2)
          obtain ⟨e1, e2⟩ := hc 3 (by simpa using hx.2)
          split
          · rename_i hy
            simp only [Bool.and_eq_true, decide_eq_true_eq] at hy
            refine ⟨by omega, hy.2, by omega, by omega, fun j hj h1 h2 => ?_⟩
            rcases (by omega : j = i ∨ j = i + 1 ∨ j = i + 2 ∨ j = i + 3) with rfl | rfl | rfl | rfl
            · exact hb
            · exact c2 hj
            · exact d2 hj
            · exact e2 hj
          · exact ⟨by decide, by decide, by omega, by omega, err⟩
        · exact ⟨by decide, by decide, by omega, by omega, err⟩
/-- what encoding gives beyond ASCII -/
theorem enc_high (r : Nat) (h : 128 ≤ r) (hv : Utf8.valid (r : Int) = true) : ∃ (z : ByteArray) (m : Nat) (b : UInt8), Utf8.encode (r : Int) = z ∧ z.size = m + 1 ∧ 1 ≤ m ∧ m ≤ 3 ∧ z.data[m]? = some b ∧ 128 ≤ b.toNat := by
  unfold Utf8.encode
  simp only [hv, if_true, Int.toNat_natCast]
  rw [if_neg (by omega)]
  have hb : ∀ x, x < 64 → 128 ≤ (UInt8.ofNat (128 + x)).toNat := fun x hx => by simp only [UInt8.toNat_ofNat']; omega
  split
  · exact ⟨_, 1, _, rfl, rfl, by omega, by omega, rfl, hb _ (by omega)⟩
  · split
    · exact ⟨_, 2, _, rfl, rfl, by omega, by omega, rfl, hb _ (by omega)⟩
    · exact ⟨_, 3, _, rfl, rfl, by omega, by omega, rfl, hb _ (by omega)⟩

theorem iterAt_below {w : World} {B k : Nat} {s : ByteArray} {p : Nat} (hB : B ≤ k) : Below B w (w.iterAt k s p) :=
  ⟨rfl, rfl, rfl, by simp [World.iterAt], fun b hb => by simp only [World.iterAt]; rw [Array.getElem?_setIfInBounds_ne (by omega)]⟩
theorem indexByte_none {l : List UInt8} {c : UInt8} (h : ∀ x ∈ l, x ≠ c) : Lib.indexByte l c = -1 := by
  induction l with
  | nil => rfl
  | cons a r ih =>
    have h1 := ih (fun x hx => h x (by simp [hx]))
    have h2 := h a (by simp)
    unfold Lib.indexByte
    simp [h1, h2]

set_option maxRecDepth 100000 in
set_option maxHeartbeats 2000000 in
theorem indexRune_err (cs : ByteArray) (h3 : cs.size = 3) (hA : ∀ j (hj : j < cs.size), (cs[j]'hj).toNat < 128) (w : World) :
    Calls Tryd.prog 111 #[.string cs, .int .i32 65533] w fun e w' => e = .returned (.int .i64 (-1)) ∧ Below w.heap.size w w' := by
  have HA := Lib.hid hA; clear hA
  have H3 := Lib.hid h3
  have HI0 := Lib.hid (show (w.iter cs 0).heap[w.heap.size]? = some (.stringIter cs 0) from World.iter_heap _ _ _)
  have HB0 := Lib.hid (show Below w.heap.size w (w.iter cs 0) from (Below.refl _ _).alloc (Nat.le_refl _) _)
  clear h3
  go_enter Tryd.func111, Tryd.ntmps111
  go_wp2_with fail
  go_loopw [5] (fun _ wr => ∃ i : Nat, i ≤ 3 ∧ Hid (wr.heap[w.heap.size]? = some (.stringIter cs i)) ∧ Hid (Below w.heap.size w wr)) (fun _ wr => 3 - wr.iterPos w.heap.size)
  case atStart => exact ⟨0, by omega, HI0, HB0⟩
  case round =>
    clear HI0 HB0
    obtain ⟨i, hi, HI, HB⟩ := hrel
    have hp : wr.iterPos w.heap.size = i := by unfold World.iterPos; rw [HI.out]
    have HP := Lib.hid hp
    clear hp
    by_cases hlt : i < 3
    · have hl2 : i < cs.size := by have := H3.out; omega
      have hnx := fun ty => Lib.run_next_ascii_at (P := Tryd.prog) wr w.heap.size cs i ty HI.out hl2 (HA.out i hl2)
      have hx : ((cs[i]'hl2).toNat : Int) ≠ 65533 := by have := HA.out i hl2; omega
      have hxb : (((cs[i]'hl2).toNat : Int) == 65533) = false := by simpa using hx
      have HI2 := Lib.hid (Lib.iterAt_heap wr w.heap.size cs i (i + 1) HI.out)
      have HB2 := Lib.hid (HB.out.trans (iterAt_below (w := wr) (s := cs) (p := i + 1) (Nat.le_refl _)))
      clear hx
      go_wp2_with fail
      go_roundw
      case rel => exact ⟨i + 1, by omega, HI2, HB2⟩
      case measure =>
        have e2 : (wr.iterAt w.heap.size cs (i + 1)).iterPos w.heap.size = i + 1 := by unfold World.iterPos; rw [HI2.out]
        rw [HP.out, e2]; omega
    · have hl2 : ¬ i < cs.size := by have := H3.out; omega
      have hnx := fun ty => Lib.run_next_end_at (P := Tryd.prog) wr w.heap.size cs i ty HI.out hl2

      go_wp2_with fail
      go_ret
      exact ⟨rfl, HB.out⟩

set_option maxRecDepth 1000000 in
set_option maxHeartbeats 4000000 in
theorem indexRune_high (cs : ByteArray) (h3 : cs.size = 3) (hA : ∀ j (hj : j < cs.size), (cs[j]'hj).toNat < 128) (r : Nat) (hr : 128 ≤ r) (hv : Utf8.valid (r : Int) = true) (he : r ≠ 65533) (w : World) :
    Calls Tryd.prog 111 #[.string cs, .int .i32 r] w fun e w' => e = .returned (.int .i64 (-1)) ∧ Below w.heap.size w w' := by
  have hvr : Lib.validRune (r : Int) = true := by
    simp only [Utf8.valid, Bool.or_eq_true, Bool.and_eq_true, decide_eq_true_eq] at hv
    simp only [Lib.validRune, decide_eq_true_eq]; omega
  obtain ⟨z, m, b, hz, hzs, hm1, hm3, hb, hb2⟩ := enc_high r hr hv
  have HA := Lib.hid hA; clear hA
  have g1 : ((r : Int) == 65533) = false := by simp; omega
  have g2 : decide ((r : Int) < 128) = false := by simp; omega
  have hmz : m < z.size := by omega
  have hzb : z[m]'hmz = b := by
    have := Array.getElem?_eq_some_iff.1 hb
    exact this.2
  have HB2 := Lib.hid hb2
  clear hv he hb hb2
  go_enter Tryd.func111, Tryd.ntmps111
  go_wp2_with (go_at_call 130; go_must (refine (Tryd.utf8_ValidRune _ _).mono ?_); rw [hvr]; rintro e w1 ⟨rfl, rfl⟩)
  go_step3
  go_wp2_with fail
  go_loopw [9, 10] (fun t9 t10 wr => t9 = .int .i64 m ∧ t10 = .int .i64 0 ∧ wr = w1) (fun _ _ _ => 0)
  case atStart => exact ⟨by go_num, rfl, rfl⟩
  case round =>
    obtain ⟨rfl, rfl, rfl⟩ := hrel
    by_cases hlt : m < 3
    · have hmc : m < cs.size := by omega
      have hne : ((cs[m]'hmc).toNat : Int) ≠ b.toNat := by have := HA.out m hmc; have := HB2.out; omega
      have hneb : (((cs[m]'hmc).toNat : Int) != b.toNat) = true := by simpa using hne
      have HE := Lib.hid (show Lib.indexByte (cs.extract (m + 1) cs.size).data.toList b = -1 from indexByte_none (fun x hx => by
        obtain ⟨j, hj⟩ := List.mem_iff_getElem?.1 hx
        have hj2 := (List.getElem?_eq_some_iff.1 hj).1
        rw [size_toList, ByteArray.size_extract] at hj2
        have hjs : m + 1 + j < cs.size := by omega
        have hx2 : cs[m + 1 + j]'hjs = x := by
          rw [List.getElem?_eq_some_iff] at hj
          obtain ⟨h1, h2⟩ := hj
          rw [← h2, Array.getElem_toList]
          exact (ByteArray.getElem_extract (by simpa [ByteArray.size_extract] using hj2)).symm
        have h3 := HA.out _ hjs
        have h4 := HB2.out
        intro e
        rw [hx2, e] at h3
        omega))
      clear hne hzs
      have hwp : IntKind.i64.wrap ((m : Int) + 1) = (m : Int) + 1 := IntWalk.i64_in _ (by omega)
      have hs1 : (m : Int) + 1 ≤ (cs.size : Int) := by omega
      have hs2 : (m : Int) + 1 ≤ 3 := by omega
      have hs3 : (0 : Int) ≤ (m : Int) + 1 := by omega
      go_wp2_with fail
      go_step3
      go_wp2_with fail
      go_quiet (fail)
      go_wp2_with fail
      go_still_tail 7, (by kernel_rfl)
      change wpList _ _ _ _ _ (World.drew (wr.drewN nq))
      have HE2 := Lib.hid (show Lib.indexByte (cs.extract (m + 1) 3).data.toList ((b.toNat : Int)).toNat.toUInt8 = -1 by
        have h5 := HE.out
        rw [h3] at h5
        rw [show ((b.toNat : Int)).toNat.toUInt8 = b by simp]
        exact h5)
      go_wp2_with (go_at_call 101; go_must (refine (Tryd.strings_IndexByte _ _ _).mono ?_); rw [HE2.out]; rintro e w5 ⟨rfl, rfl⟩)
      repeat (first | with_reducible refine ret_noGoto ?_ | with_reducible refine ret_in ?_ | with_reducible refine ret_then ?_)
      go_ret
      exact ⟨rfl, Below.drewN' (Below.refl _ _) _⟩
    · go_wp2_with fail
      rw [Exit.noGoto_ret]
      go_ret
      exact ⟨rfl, Below.refl _ _⟩

end Go.Proofs.YtlganccpgchmeaaDoor
