/-
  mark.Escape.
-/
import Derived.Test.YtbhildmalcfhiaaGreatDoorEscPlain
import Derived.Test.YtbhildmalcfhiaaGreatDoorBox
import Derived.Test.YtbhildmalcfhiaaGreatDoorRowOps
import Derived.Laws.Strings2
import Derived.Laws.OwnMore
import Derived.BigQuiet
import Derived.Deep.QuietTactic
import Derived.RegionTactic
import Derived.Deep.OwnRows
import Derived.Outline
import Derived.Deep.DeepMust
import Derived.Test.YtbhildmalcfhiaaGreatDoorBuilderK
import Derived.Test.YtbhildmalcfhiaaGreatDoorConv
import Derived.Lib.ConvBytes
import Derived.Deep.WholeRow
import Derived.Defers
import Derived.RegionCalls
import Derived.Laws.LoneSync
import Derived.Handy
import Derived.Test.YtbhildmalcfhiaaGreatDoorEscRef
namespace Go.Proofs.YtbhildmalcfhiaaGreatDoor
open Go.RowKit Go.Deep

theorem byteAtE {s : ByteArray} {i : Nat} {c : UInt8} (h : s.data.toList[i]? = some c) (hi : i < s.size) : s[i] = c := by
  obtain ⟨h1, h2⟩ := List.getElem?_eq_some_iff.1 h
  rw [← h2]; rfl
theorem info_byteE : (Tryz.prog.info? 5).map (fun i => (i.zero, i.size, i.bytes)) = some (some (.int .u8 0), 1, 1) := by kernel_rfl
theorem info_sizeE : (Tryz.prog.info? 5).map (·.size) = some 1 := by kernel_rfl
/-- the row that is written: what stands already, then zeros -/
def rowE (l : List UInt8) (n : Nat) : List Value := byteCells l ++ List.replicate (n - l.length) (.int .u8 0)
def lenN (s : ByteArray) (k : Nat) : Nat := s.size + gainL (s.data.toList.take k)
def lenK (s : ByteArray) (k : Nat) : Nat := s.size + gainK s.data.toList k
theorem lenN_all (s : ByteArray) : lenN s s.size = (escL s.data.toList).length := by rw [lenN, ← size_toList, List.take_length, escL_len, size_toList]
theorem rowE_len {l : List UInt8} {n : Nat} (h : l.length ≤ n) : (rowE l n).length = n := by simp [rowE, byteCells]; omega
theorem rowE_made (w : World) (n : Nat) : CB (w.alloc (.cells (madeCells #[.int .u8 0] n) 5)) w.heap.size 5 (rowE (escL []) n).toArray := by
  have e : (rowE (escL []) n).toArray = madeCells #[.int .u8 0] n := by
    apply Array.ext'
    rw [toList_madeCells_one]
    simp [rowE, escL, byteCells]
  rw [e]
  exact CB.new _ _ _
theorem rowE_at {l : List UInt8} {n j : Nat} (h : l.length = n) (hj : j < n) : (rowE l n).toArray[j]? = some (.int .u8 ((l.getD j 0).toNat : Int)) := by
  subst h
  rw [List.getElem?_toArray, rowE, List.getElem?_append_left (by simpa [byteCells] using hj), byteCells, List.getElem?_map, List.getElem?_eq_getElem hj]
  simp [List.getD, hj]
theorem rowE_set {l : List UInt8} {n : Nat} (h : l.length < n) (c : UInt8) : (rowE l n).toArray.setIfInBounds l.length (.int .u8 (c.toNat : Int)) = (rowE (l ++ [c]) n).toArray := by
  apply Array.ext'
  obtain ⟨m, hm⟩ : ∃ m, n - l.length = m + 1 := ⟨n - l.length - 1, by omega⟩
  have hm2 : n - (l ++ [c]).length = m := by simp; omega
  rw [Array.toList_setIfInBounds, rowE, rowE, hm, hm2, List.replicate_succ]
  rw [List.set_append_right _ _ (by simp [byteCells])]
  simp [byteCells]
theorem rowE_splice {l r : List UInt8} {n : Nat} (h : l.length + r.length ≤ n) : splice (rowE l n) l.length (byteCells r) = rowE (l ++ r) n := by
  have h1 : (byteCells l).length = l.length := by simp [byteCells]
  have h2 : (byteCells r).length = r.length := by simp [byteCells]
  rw [splice, rowE, rowE, h2]
  rw [List.take_append_of_le_length (by omega), List.take_of_length_le (by omega)]
  rw [List.drop_append, List.drop_eq_nil_of_le (by omega), List.nil_append, List.drop_replicate, h1, List.length_append]
  rw [show n - l.length - (l.length + r.length - l.length) = n - (l.length + r.length) by omega]
  simp [byteCells]
theorem lenK_all (s : ByteArray) : lenK s 4 = (escL s.data.toList).length := by rw [lenK, gainK_all, escL_len, size_toList]

set_option maxRecDepth 100000 in
set_option maxHeartbeats 4000000 in
theorem bsr_q (b : Nat) (s : ByteArray) (w : World) (h : ReplAt w b) (hs : s.size ≤ 2097152) :
    Calls Tryz.prog 286 #[.pointer (some ⟨b, 0, none⟩), .string s] w fun e w' => e = .returned (.string ⟨(escL s.data.toList).toArray⟩) ∧ Below w.heap.size w w' := by
  have HR := Lib.hid h
  obtain ⟨gt, ct, ht, hct, hct2, htr⟩ := h.tr
  have hsh := h.sh
  clear h
  by_cases h32 : (32 : Int) ≤ (s.size : Int)
  · have h33 : decide ((32 : Int) ≤ (s.size : Int)) = true := by simpa using h32
    go_enter Tryz.func286, Tryz.ntmps286
    go_wp2_with fail
    go_loopw [5, 6, 32] (fun t5 t6 t wr => ∃ k : Nat, k ≤ 4 ∧ t = .int .i64 k ∧ t5 = .int .i64 (lenK s k : Nat) ∧ t6 = .bool (anyK s.data.toList k) ∧ Hid (Below w.heap.size w wr)) (fun _ _ t _ => 4 - (intOf t).toNat)
    case atStart => exact ⟨0, Nat.zero_le _, rfl, rfl, rfl, Below.refl _ _⟩
    case round =>
      obtain ⟨k, hk, rfl, rfl, rfl, HB⟩ := hrel
      by_cases hlt : k < 4
      · have hkk : k = 0 ∨ k = 1 ∨ k = 2 ∨ k = 3 := by omega
        rcases hkk with rfl | rfl | rfl | rfl
        · have p0 := Keeps.of_below HB.out _ _ (htr 0 34 rfl)
          obtain ⟨g, cap, hy, hlc, hcap, _⟩ := (HR.out.below HB.out).yes 34 [38, 113, 117, 111, 116, 59] rfl
          have hy : wr.cell? ⟨b, 34, none⟩ = some (.slice (some ⟨g, 0, none⟩) 6 cap) := hy
          obtain ⟨n, hn⟩ : ∃ n, Lib.countByte s.data.toList 34 = n := ⟨_, rfl⟩
          have hnl : n ≤ s.size := by rw [← hn, ← size_toList]; exact List.count_le_length
          have HG := Lib.hid (show lenK s (0 + 1) = lenK s 0 + n * 5 by
            rw [← hn]
            have g1 : escG 34 = 5 := by decide
            simp [lenK, gainK, trB, Lib.countByte, g1]
            try omega)
          have HA := Lib.hid (show anyK s.data.toList (0 + 1) = (anyK s.data.toList 0 || decide (n ≠ 0)) by
            rw [← hn]
            simp [anyK, trB, Lib.countByte])
          have hcall := Tryz.strings_Count_one s 34 wr
          rw [hn] at hcall
          have hgl : lenK s 0 ≤ 16777216 := by
            have h1 := gainL_le s.data.toList
            have h2 := gainK_all s.data.toList
            rw [size_toList] at h1
            have h3 : gainK s.data.toList 0 ≤ gainK s.data.toList 4 := by simp [gainK, trB]
            unfold lenK
            omega
          obtain ⟨N, hN⟩ : ∃ N, lenK s 0 = N := ⟨_, rfl⟩
          have HN := Lib.hid hN
          rw [hN] at hgl
          rw [hN]
          clear hn hN
          by_cases h0 : n = 0
          · subst h0
            go_wp2_with (go_at_call 133; go_must (refine hcall.mono ?_); rintro e w2 ⟨rfl, rfl⟩)
            go_roundw
            case rel => exact ⟨0 + 1, by omega, by go_num, by rw [HG.out, HN.out]; simp, by rw [HA.out]; simp, HB.out⟩
            case measure => simp [intOf]
          · have f1 : IntKind.i64.wrap ((n : Int) * 5) = (n : Int) * 5 := by rw [IntKind.wrap_i64]; omega
            have f2 : IntKind.i64.wrap ((N : Int) + (n : Int) * 5) = ((N + n * 5 : Nat) : Int) := by rw [IntKind.wrap_i64]; omega
            have h0b : ((n : Int) != 0) = true := by simpa using h0
            go_wp2_with (go_at_call 133; go_must (refine hcall.mono ?_); rintro e w2 ⟨rfl, rfl⟩)
            have e0 : ∀ h : 0 < (⟨#[34]⟩ : ByteArray).size, ((⟨#[34]⟩ : ByteArray)[0]'h) = 34 := fun _ => rfl
            have e1 : ∀ h : 0 < (⟨#[34]⟩ : ByteArray).size, (((⟨#[34]⟩ : ByteArray)[0]'h).toNat : Int) = 34 := fun _ => rfl
            go_quiet (fail)
            go_wp2_with fail
            go_roundw
            case rel => exact ⟨0 + 1, by omega, by go_num, by rw [HG.out, HN.out]; simp, by rw [HA.out]; simp [h0], Below.drewN' HB.out _⟩
            case measure => simp [intOf]
        · have p0 := Keeps.of_below HB.out _ _ (htr 1 62 rfl)
          obtain ⟨g, cap, hy, hlc, hcap, _⟩ := (HR.out.below HB.out).yes 62 [38, 103, 116, 59] rfl
          have hy : wr.cell? ⟨b, 62, none⟩ = some (.slice (some ⟨g, 0, none⟩) 4 cap) := hy
          obtain ⟨n, hn⟩ : ∃ n, Lib.countByte s.data.toList 62 = n := ⟨_, rfl⟩
          have hnl : n ≤ s.size := by rw [← hn, ← size_toList]; exact List.count_le_length
          have HG := Lib.hid (show lenK s (1 + 1) = lenK s 1 + n * 3 by
            rw [← hn]
            have g1 : escG 62 = 3 := by decide
            simp [lenK, gainK, trB, Lib.countByte, g1]
            try omega)
          have HA := Lib.hid (show anyK s.data.toList (1 + 1) = (anyK s.data.toList 1 || decide (n ≠ 0)) by
            rw [← hn]
            simp [anyK, trB, Lib.countByte])
          have hcall := Tryz.strings_Count_one s 62 wr
          rw [hn] at hcall
          have hgl : lenK s 1 ≤ 16777216 := by
            have h1 := gainL_le s.data.toList
            have h2 := gainK_all s.data.toList
            rw [size_toList] at h1
            have h3 : gainK s.data.toList 1 ≤ gainK s.data.toList 4 := by simp [gainK, trB]
            unfold lenK
            omega
          obtain ⟨N, hN⟩ : ∃ N, lenK s 1 = N := ⟨_, rfl⟩
          have HN := Lib.hid hN
          rw [hN] at hgl
          rw [hN]
          clear hn hN
          by_cases h0 : n = 0
          · subst h0
            go_wp2_with (go_at_call 133; go_must (refine hcall.mono ?_); rintro e w2 ⟨rfl, rfl⟩)
            go_roundw
            case rel => exact ⟨1 + 1, by omega, by go_num, by rw [HG.out, HN.out]; simp, by rw [HA.out]; simp, HB.out⟩
            case measure => simp [intOf]
          · have f1 : IntKind.i64.wrap ((n : Int) * 3) = (n : Int) * 3 := by rw [IntKind.wrap_i64]; omega
            have f2 : IntKind.i64.wrap ((N : Int) + (n : Int) * 3) = ((N + n * 3 : Nat) : Int) := by rw [IntKind.wrap_i64]; omega
            have h0b : ((n : Int) != 0) = true := by simpa using h0
            go_wp2_with (go_at_call 133; go_must (refine hcall.mono ?_); rintro e w2 ⟨rfl, rfl⟩)
            have e0 : ∀ h : 0 < (⟨#[62]⟩ : ByteArray).size, ((⟨#[62]⟩ : ByteArray)[0]'h) = 62 := fun _ => rfl
            have e1 : ∀ h : 0 < (⟨#[62]⟩ : ByteArray).size, (((⟨#[62]⟩ : ByteArray)[0]'h).toNat : Int) = 62 := fun _ => rfl
            go_quiet (fail)
            go_wp2_with fail
            go_roundw
            case rel => exact ⟨1 + 1, by omega, by go_num, by rw [HG.out, HN.out]; simp, by rw [HA.out]; simp [h0], Below.drewN' HB.out _⟩
            case measure => simp [intOf]
        · have p0 := Keeps.of_below HB.out _ _ (htr 2 60 rfl)
          obtain ⟨g, cap, hy, hlc, hcap, _⟩ := (HR.out.below HB.out).yes 60 [38, 108, 116, 59] rfl
          have hy : wr.cell? ⟨b, 60, none⟩ = some (.slice (some ⟨g, 0, none⟩) 4 cap) := hy
          obtain ⟨n, hn⟩ : ∃ n, Lib.countByte s.data.toList 60 = n := ⟨_, rfl⟩
          have hnl : n ≤ s.size := by rw [← hn, ← size_toList]; exact List.count_le_length
          have HG := Lib.hid (show lenK s (2 + 1) = lenK s 2 + n * 3 by
            rw [← hn]
            have g1 : escG 60 = 3 := by decide
            simp [lenK, gainK, trB, Lib.countByte, g1]
            try omega)
          have HA := Lib.hid (show anyK s.data.toList (2 + 1) = (anyK s.data.toList 2 || decide (n ≠ 0)) by
            rw [← hn]
            simp [anyK, trB, Lib.countByte, Bool.or_assoc])
          have hcall := Tryz.strings_Count_one s 60 wr
          rw [hn] at hcall
          have hgl : lenK s 2 ≤ 16777216 := by
            have h1 := gainL_le s.data.toList
            have h2 := gainK_all s.data.toList
            rw [size_toList] at h1
            have h3 : gainK s.data.toList 2 ≤ gainK s.data.toList 4 := by simp [gainK, trB]
            unfold lenK
            omega
          obtain ⟨N, hN⟩ : ∃ N, lenK s 2 = N := ⟨_, rfl⟩
          have HN := Lib.hid hN
          rw [hN] at hgl
          rw [hN]
          clear hn hN
          by_cases h0 : n = 0
          · subst h0
            go_wp2_with (go_at_call 133; go_must (refine hcall.mono ?_); rintro e w2 ⟨rfl, rfl⟩)
            go_roundw
            case rel => exact ⟨2 + 1, by omega, by go_num, by rw [HG.out, HN.out]; simp, by rw [HA.out]; simp, HB.out⟩
            case measure => simp [intOf]
          · have f1 : IntKind.i64.wrap ((n : Int) * 3) = (n : Int) * 3 := by rw [IntKind.wrap_i64]; omega
            have f2 : IntKind.i64.wrap ((N : Int) + (n : Int) * 3) = ((N + n * 3 : Nat) : Int) := by rw [IntKind.wrap_i64]; omega
            have h0b : ((n : Int) != 0) = true := by simpa using h0
            go_wp2_with (go_at_call 133; go_must (refine hcall.mono ?_); rintro e w2 ⟨rfl, rfl⟩)
            have e0 : ∀ h : 0 < (⟨#[60]⟩ : ByteArray).size, ((⟨#[60]⟩ : ByteArray)[0]'h) = 60 := fun _ => rfl
            have e1 : ∀ h : 0 < (⟨#[60]⟩ : ByteArray).size, (((⟨#[60]⟩ : ByteArray)[0]'h).toNat : Int) = 60 := fun _ => rfl
            go_quiet (fail)
            go_wp2_with fail
            go_roundw
            case rel => exact ⟨2 + 1, by omega, by go_num, by rw [HG.out, HN.out]; simp, by rw [HA.out]; simp [h0], Below.drewN' HB.out _⟩
            case measure => simp [intOf]
        · have p0 := Keeps.of_below HB.out _ _ (htr 3 38 rfl)
          obtain ⟨g, cap, hy, hlc, hcap, _⟩ := (HR.out.below HB.out).yes 38 [38, 97, 109, 112, 59] rfl
          have hy : wr.cell? ⟨b, 38, none⟩ = some (.slice (some ⟨g, 0, none⟩) 5 cap) := hy
          obtain ⟨n, hn⟩ : ∃ n, Lib.countByte s.data.toList 38 = n := ⟨_, rfl⟩
          have hnl : n ≤ s.size := by rw [← hn, ← size_toList]; exact List.count_le_length
          have HG := Lib.hid (show lenK s (3 + 1) = lenK s 3 + n * 4 by
            rw [← hn]
            have g1 : escG 38 = 4 := by decide
            simp [lenK, gainK, trB, Lib.countByte, g1]
            try omega)
          have HA := Lib.hid (show anyK s.data.toList (3 + 1) = (anyK s.data.toList 3 || decide (n ≠ 0)) by
            rw [← hn]
            simp [anyK, trB, Lib.countByte, Bool.or_assoc])
          have hcall := Tryz.strings_Count_one s 38 wr
          rw [hn] at hcall
          have hgl : lenK s 3 ≤ 16777216 := by
            have h1 := gainL_le s.data.toList
            have h2 := gainK_all s.data.toList
            rw [size_toList] at h1
            have h3 : gainK s.data.toList 3 ≤ gainK s.data.toList 4 := by simp [gainK, trB]
            unfold lenK
            omega
          obtain ⟨N, hN⟩ : ∃ N, lenK s 3 = N := ⟨_, rfl⟩
          have HN := Lib.hid hN
          rw [hN] at hgl
          rw [hN]
          clear hn hN
          by_cases h0 : n = 0
          · subst h0
            go_wp2_with (go_at_call 133; go_must (refine hcall.mono ?_); rintro e w2 ⟨rfl, rfl⟩)
            go_roundw
            case rel => exact ⟨3 + 1, by omega, by go_num, by rw [HG.out, HN.out]; simp, by rw [HA.out]; simp, HB.out⟩
            case measure => simp [intOf]
          · have f1 : IntKind.i64.wrap ((n : Int) * 4) = (n : Int) * 4 := by rw [IntKind.wrap_i64]; omega
            have f2 : IntKind.i64.wrap ((N : Int) + (n : Int) * 4) = ((N + n * 4 : Nat) : Int) := by rw [IntKind.wrap_i64]; omega
            have h0b : ((n : Int) != 0) = true := by simpa using h0
            go_wp2_with (go_at_call 133; go_must (refine hcall.mono ?_); rintro e w2 ⟨rfl, rfl⟩)
            have e0 : ∀ h : 0 < (⟨#[38]⟩ : ByteArray).size, ((⟨#[38]⟩ : ByteArray)[0]'h) = 38 := fun _ => rfl
            have e1 : ∀ h : 0 < (⟨#[38]⟩ : ByteArray).size, (((⟨#[38]⟩ : ByteArray)[0]'h).toNat : Int) = 38 := fun _ => rfl
            go_quiet (fail)
            go_wp2_with fail
            go_roundw
            case rel => exact ⟨3 + 1, by omega, by go_num, by rw [HG.out, HN.out]; simp, by rw [HA.out]; simp [h0], Below.drewN' HB.out _⟩
            case measure => simp [intOf]
      · have hk4 : k = 4 := by omega
        subst hk4
        have HB1 := HB
        rw [show ((4 : Nat) : Int) = (4 : Int) from rfl, lenK_all, anyK_all]
        obtain ⟨N, hN⟩ : ∃ N, (escL s.data.toList).length = N := ⟨_, rfl⟩
        have hN1 := escL_len s.data.toList
        have hN2 := gainL_le s.data.toList
        rw [size_toList] at hN1 hN2
        have HN := Lib.hid hN
        rw [hN]
        have hNb : N ≤ 16777216 := by omega
        clear hN hN1 hN2
        cases hany : anyL s.data.toList
        · have HS := Lib.hid (show (⟨(escL s.data.toList).toArray⟩ : ByteArray) = s by rw [escL_same hany])
          clear hany
          go_wp2_with fail
          go_ret
          exact ⟨by rw [HS.out]; rfl, HB1.out⟩
        · clear hany
          have hmk := fun W : World => run_make_row' (P := Tryz.prog) 165 5 (.int .u8 0) 1 Tryz.underlying165 info_byteE rfl .i64 .i64 N (by omega) (by omega) W
          go_wp2_with fail
          obtain ⟨g, hg⟩ : ∃ g, wr.heap.size = g := ⟨_, rfl⟩
          obtain ⟨W1, hW1⟩ : ∃ W1, wr.alloc (.cells (madeCells #[.int .u8 0] N) 5) = W1 := ⟨_, rfl⟩
          have HC1 := Lib.hid (show CB W1 g 5 (rowE (escL (s.data.toList.take 0)) N).toArray by rw [← hW1, ← hg]; exact rowE_made wr N)
          have HB2 := Lib.hid (show Below w.heap.size w W1 by rw [← hW1]; exact HB1.out.alloc HB1.out.size _)
          have hgw : w.heap.size ≤ g := by rw [← hg]; exact HB1.out.size
          rw [hW1, hg]
          clear hW1 hmk
          go_loopw [13, 14] (fun t13 t14 wr => ∃ i : Nat, i ≤ s.size ∧ t14 = .int .i64 i ∧ t13 = .int .i64 ((escL (s.data.toList.take i)).length : Nat) ∧ Hid (Below w.heap.size w wr) ∧ Hid (CB wr g 5 (rowE (escL (s.data.toList.take i)) N).toArray)) (fun _ t _ => s.size - (intOf t).toNat)
          case atStart => exact ⟨0, Nat.zero_le _, rfl, rfl, HB2.out, HC1.out⟩
          case round =>
            clear HB2 HC1
            obtain ⟨i, hi, rfl, rfl, HB3, HC3⟩ := hrel
            by_cases hlt9 : i < s.size
            · obtain ⟨ch, hch0⟩ : ∃ c, s.data.toList[i]? = some c := ⟨_, List.getElem?_eq_getElem (by rw [size_toList]; exact hlt9)⟩
              have hch := Lib.hid hch0; clear hch0
              have hsb : s[i] = ch := byteAtE hch.out hlt9
              subst hsb
              have hc256 : s[i].toNat < 256 := s[i].toNat_lt
              have hc256i : (s[i].toNat : Int) < 256 := by omega
              have HE := Lib.hid (escL_take hch.out)
              have hle := escL_take_le s.data.toList (i + 1)
              rw [HE.out, List.length_append, HN.out] at hle
              obtain ⟨L, hL⟩ : ∃ L, escL (s.data.toList.take i) = L := ⟨_, rfl⟩
              rw [hL] at HE HC3 hle
              rw [hL]
              clear hL
              cases hf : escF s[i] with
              | none =>
                have hno := (HR.out.below HB3.out).no _ hf
                have hneq : ∀ W : World, Sem.run Tryz.prog (binOp BinOp.neq 165 (Value.slice none 0 0) (Value.slice none 0 0)) W = Result.ok (Value.bool false) W := fun _ => rfl
                have HE1 := Lib.hid (escB_none hf)
                rw [HE1.out] at hle
                simp only [List.length_cons, List.length_nil] at hle
                clear hf
                obtain ⟨v0, hv0⟩ : ∃ v, (rowE L N).toArray[L.length]? = some v := ⟨_, Array.getElem?_eq_getElem (by rw [List.size_toArray, rowE_len (by omega)]; omega)⟩
                have x0 := HC3.out.c L.length
                rw [hv0] at x0
                have x1 := HC3.out.f L.length
                have x2 := HC3.out.sh
                rw [List.size_toArray, rowE_len (by omega)] at x2
                clear hv0
                have hjN : (L.length : Int) < (N : Int) := by omega
                go_wp2_with fail
                go_roundw
                case rel =>
                  refine ⟨i + 1, by omega, by go_num, by rw [HE.out, HE1.out]; simp, HB3.out.setCell (p := ⟨g, L.length, none⟩) hgw _, ?_⟩
                  show CB _ _ _ _
                  rw [HE.out, HE1.out, ← rowE_set (by omega)]
                  exact HC3.out.put _ _
                case measure => simp [intOf]; omega
              | some l =>
                obtain ⟨g2, cap, hy, hlc, hcap, hcl⟩ := (HR.out.below HB3.out).yes _ l hf
                have hneq : ∀ W : World, Sem.run Tryz.prog (binOp BinOp.neq 165 (Value.slice (some ⟨g2, 0, none⟩) l.length cap) (Value.slice none 0 0)) W = Result.ok (Value.bool true) W := fun _ => rfl
                have hl1 : 1 ≤ l.length := by have := escB_pos s[i]; rw [escB_some hf] at this; exact this
                have HE1 := Lib.hid (escB_some hf)
                rw [HE1.out] at hle
                have HCl := Lib.hid hcl; clear hcl hf
                have hjN : (L.length : Int) ≤ (N : Int) := by omega
                have f3 : ¬ N = L.length := by omega
                have f5 : 0 ≤ (L.length : Int) := by omega
                have f4 : IntKind.i64.wrap ((L.length : Int) + (l.length : Int)) = ((L.length + l.length : Nat) : Int) := by rw [IntKind.wrap_i64]; omega
                have hone : ∀ v ∈ byteCells l, v.oneCell' = true := by
                  intro v hv
                  simp only [byteCells, List.mem_map] at hv
                  obtain ⟨x, _, rfl⟩ := hv
                  rfl
                have hbl : (byteCells l).length = l.length := by simp [byteCells]
                go_wp2_with fail
                go_region_law (refine step_copy_row rfl (.tmp 105) (.tmp 111) 165 165 rfl 5 Tryz.underlying165 info_sizeE (some ⟨g, L.length, none⟩) (some ⟨g2, 0, none⟩) (N - L.length) (N - L.length) l.length cap (by simp [Act.eval]) (by simp [Act.eval]) g L.length (rowE L N) 5 HC3.out (byteCells l) (by rw [hbl]; show l.length = min _ _; omega) ?hpos (by rw [rowE_len (by omega), hbl]; omega) hone ?_
                               case hpos =>
                                 intro _
                                 refine ⟨rfl, _, rfl, fun j v hv => ?_⟩
                                 simp only [byteCells, List.getElem?_map, Option.map_eq_some_iff] at hv
                                 obtain ⟨x, hx, rfl⟩ := hv
                                 have e : (⟨g2, 0, none⟩ : Addr).add j = ⟨g2, j, none⟩ := by unfold Addr.add; split <;> simp_all
                                 rw [e]; exact HCl.out j x hx
                               intro w2 hc2 hgr2)
                all_goals
                  have HC5 := Lib.hid (show CB w2 g 5 (rowE (L ++ l) N).toArray by
                    have h := hc2.out
                    rw [rowE_splice (by omega)] at h
                    exact h)
                  have HG5 := Lib.hid hgr2
                  clear hc2 hgr2
                  go_wp2_with fail
                  go_roundw
                  case rel =>
                    refine ⟨i + 1, by omega, by go_num, by rw [HE.out, HE1.out]; simp, ?_, ?_⟩
                    · exact HB3.out.drew.grown HG5.out HB3.out.size (fun k hk => by cases hk; exact hgw)
                    · show CB _ _ _ _
                      rw [HE.out, HE1.out]
                      exact HC5.out
                  case measure => simp [intOf]; omega
            · have hie : s.data.toList.take i = s.data.toList := by rw [show i = s.data.toList.length by rw [size_toList]; omega, List.take_length]
              rw [hie] at HC3
              have hconv := conv_string (P := Tryz.prog) wr 165 9 5 g N N (escL s.data.toList) Tryz.underlying165 Tryz.underlying5 Tryz.underlying9 HN.out.symm (fun j hj => by
                rw [HC3.out.c j]
                exact rowE_at HN.out hj)
              clear hie
              go_wp2_with fail
              go_ret
              exact ⟨rfl, HB3.out⟩
  · have h33 : decide ((32 : Int) ≤ (s.size : Int)) = false := by simpa using h32
    go_enter Tryz.func286, Tryz.ntmps286
    go_wp2_with fail
    go_loopw [5, 6, 10] (fun t5 t6 t wr => ∃ k : Nat, k ≤ s.size ∧ t = .int .i64 k ∧ t5 = .int .i64 (lenN s k : Nat) ∧ t6 = .bool (anyL (s.data.toList.take k)) ∧ Hid (Below w.heap.size w wr)) (fun _ _ t _ => s.size - (intOf t).toNat)
    case atStart => exact ⟨0, Nat.zero_le _, rfl, rfl, rfl, Below.refl _ _⟩
    case round =>
      obtain ⟨k, hk, rfl, rfl, rfl, HB⟩ := hrel
      by_cases hlt : k < s.size
      · obtain ⟨ch, hch0⟩ : ∃ c, s.data.toList[k]? = some c := ⟨_, List.getElem?_eq_getElem (by rw [size_toList]; exact hlt)⟩
        have hch := Lib.hid hch0; clear hch0
        have hsb : s[k] = ch := byteAtE hch.out hlt
        subst hsb
        have hc256 : s[k].toNat < 256 := s[k].toNat_lt
        cases hf : escF s[k] with
        | none =>
          have hno := (HR.out.below HB.out).no _ hf
          have hneq : ∀ W : World, Sem.run Tryz.prog (binOp BinOp.neq 165 (Value.slice none 0 0) (Value.slice none 0 0)) W = Result.ok (Value.bool false) W := fun _ => rfl
          have HA := Lib.hid (show anyL (s.data.toList.take (k + 1)) = anyL (s.data.toList.take k) by rw [anyL_take hch.out, hf]; simp)
          have HG := Lib.hid (show lenN s (k + 1) = lenN s k by rw [lenN, lenN, gainL_take hch.out]; unfold escG; rw [escB_none hf]; rfl)
          clear hf
          go_wp2_with fail
          go_roundw
          case rel => exact ⟨k + 1, by omega, by go_num, by rw [HG.out], by rw [HA.out], HB.out⟩
          case measure => simp [intOf]; omega
        | some l =>
          obtain ⟨g, cap, hy, hlc, hcap, _⟩ := (HR.out.below HB.out).yes _ l hf
          have hneq : ∀ W : World, Sem.run Tryz.prog (binOp BinOp.neq 165 (Value.slice (some ⟨g, 0, none⟩) l.length cap) (Value.slice none 0 0)) W = Result.ok (Value.bool true) W := fun _ => rfl
          have hl1 : 1 ≤ l.length := by have := escB_pos s[k]; rw [escB_some hf] at this; exact this
          have hl6 : l.length ≤ 6 := by have := escB_le s[k]; rw [escB_some hf] at this; exact this
          have HA := Lib.hid (show anyL (s.data.toList.take (k + 1)) = true by rw [anyL_take hch.out, hf]; simp)
          have HG := Lib.hid (show lenN s (k + 1) = lenN s k + (l.length - 1) by rw [lenN, lenN, gainL_take hch.out]; unfold escG; rw [escB_some hf]; omega)
          have hgl := gainL_le s.data.toList
          have hgt := gain_take_le s.data.toList k
          rw [size_toList] at hgl
          have hln : lenN s k ≤ 16777216 := by unfold lenN; omega
          obtain ⟨N, hN⟩ : ∃ N, lenN s k = N := ⟨_, rfl⟩
          have HN := Lib.hid hN
          rw [hN] at hln
          rw [hN]
          have f1 : IntKind.i64.wrap ((l.length : Int) - 1) = (l.length : Int) - 1 := by rw [IntKind.wrap_i64]; omega
          have f2 : IntKind.i64.wrap ((N : Int) + ((l.length : Int) - 1)) = ((N + (l.length - 1) : Nat) : Int) := by rw [IntKind.wrap_i64]; omega
          clear hf hN hgl hgt
          go_wp2_with fail
          go_roundw
          case rel => exact ⟨k + 1, by omega, by go_num, by rw [HG.out, HN.out]; simp, by rw [HA.out], HB.out⟩
          case measure => simp [intOf]; omega
      · have hke : k = s.size := by omega
        subst hke
        have HB1 := HB
        rw [lenN_all, show s.data.toList.take s.size = s.data.toList by rw [← size_toList, List.take_length]]
        obtain ⟨N, hN⟩ : ∃ N, (escL s.data.toList).length = N := ⟨_, rfl⟩
        have hN1 := escL_len s.data.toList
        have hN2 := gainL_le s.data.toList
        rw [size_toList] at hN1 hN2
        have HN := Lib.hid hN
        rw [hN]
        have hNb : N ≤ 16777216 := by omega
        clear hN hN1 hN2
        cases hany : anyL s.data.toList
        · have HS := Lib.hid (show (⟨(escL s.data.toList).toArray⟩ : ByteArray) = s by rw [escL_same hany])
          clear hany
          go_wp2_with fail
          go_ret
          exact ⟨by rw [HS.out]; rfl, HB1.out⟩
        · clear hany
          have hmk := fun W : World => run_make_row' (P := Tryz.prog) 165 5 (.int .u8 0) 1 Tryz.underlying165 info_byteE rfl .i64 .i64 N (by omega) (by omega) W
          go_wp2_with fail
          obtain ⟨g, hg⟩ : ∃ g, wr.heap.size = g := ⟨_, rfl⟩
          obtain ⟨W1, hW1⟩ : ∃ W1, wr.alloc (.cells (madeCells #[.int .u8 0] N) 5) = W1 := ⟨_, rfl⟩
          have HC1 := Lib.hid (show CB W1 g 5 (rowE (escL (s.data.toList.take 0)) N).toArray by rw [← hW1, ← hg]; exact rowE_made wr N)
          have HB2 := Lib.hid (show Below w.heap.size w W1 by rw [← hW1]; exact HB1.out.alloc HB1.out.size _)
          have hgw : w.heap.size ≤ g := by rw [← hg]; exact HB1.out.size
          rw [hW1, hg]
          clear hW1 hmk
          go_loopw [13, 14] (fun t13 t14 wr => ∃ i : Nat, i ≤ s.size ∧ t14 = .int .i64 i ∧ t13 = .int .i64 ((escL (s.data.toList.take i)).length : Nat) ∧ Hid (Below w.heap.size w wr) ∧ Hid (CB wr g 5 (rowE (escL (s.data.toList.take i)) N).toArray)) (fun _ t _ => s.size - (intOf t).toNat)
          case atStart => exact ⟨0, Nat.zero_le _, rfl, rfl, HB2.out, HC1.out⟩
          case round =>
            clear HB2 HC1
            obtain ⟨i, hi, rfl, rfl, HB3, HC3⟩ := hrel
            by_cases hlt9 : i < s.size
            · obtain ⟨ch, hch0⟩ : ∃ c, s.data.toList[i]? = some c := ⟨_, List.getElem?_eq_getElem (by rw [size_toList]; exact hlt9)⟩
              have hch := Lib.hid hch0; clear hch0
              have hsb : s[i] = ch := byteAtE hch.out hlt9
              subst hsb
              have hc256 : s[i].toNat < 256 := s[i].toNat_lt
              have hc256i : (s[i].toNat : Int) < 256 := by omega
              have HE := Lib.hid (escL_take hch.out)
              have hle := escL_take_le s.data.toList (i + 1)
              rw [HE.out, List.length_append, HN.out] at hle
              obtain ⟨L, hL⟩ : ∃ L, escL (s.data.toList.take i) = L := ⟨_, rfl⟩
              rw [hL] at HE HC3 hle
              rw [hL]
              clear hL
              cases hf : escF s[i] with
              | none =>
                have hno := (HR.out.below HB3.out).no _ hf
                have hneq : ∀ W : World, Sem.run Tryz.prog (binOp BinOp.neq 165 (Value.slice none 0 0) (Value.slice none 0 0)) W = Result.ok (Value.bool false) W := fun _ => rfl
                have HE1 := Lib.hid (escB_none hf)
                rw [HE1.out] at hle
                simp only [List.length_cons, List.length_nil] at hle
                clear hf
                obtain ⟨v0, hv0⟩ : ∃ v, (rowE L N).toArray[L.length]? = some v := ⟨_, Array.getElem?_eq_getElem (by rw [List.size_toArray, rowE_len (by omega)]; omega)⟩
                have x0 := HC3.out.c L.length
                rw [hv0] at x0
                have x1 := HC3.out.f L.length
                have x2 := HC3.out.sh
                rw [List.size_toArray, rowE_len (by omega)] at x2
                clear hv0
                have hjN : (L.length : Int) < (N : Int) := by omega
                go_wp2_with fail
                go_roundw
                case rel =>
                  refine ⟨i + 1, by omega, by go_num, by rw [HE.out, HE1.out]; simp, HB3.out.setCell (p := ⟨g, L.length, none⟩) hgw _, ?_⟩
                  show CB _ _ _ _
                  rw [HE.out, HE1.out, ← rowE_set (by omega)]
                  exact HC3.out.put _ _
                case measure => simp [intOf]; omega
              | some l =>
                obtain ⟨g2, cap, hy, hlc, hcap, hcl⟩ := (HR.out.below HB3.out).yes _ l hf
                have hneq : ∀ W : World, Sem.run Tryz.prog (binOp BinOp.neq 165 (Value.slice (some ⟨g2, 0, none⟩) l.length cap) (Value.slice none 0 0)) W = Result.ok (Value.bool true) W := fun _ => rfl
                have hl1 : 1 ≤ l.length := by have := escB_pos s[i]; rw [escB_some hf] at this; exact this
                have HE1 := Lib.hid (escB_some hf)
                rw [HE1.out] at hle
                have HCl := Lib.hid hcl; clear hcl hf
                have hjN : (L.length : Int) ≤ (N : Int) := by omega
                have f3 : ¬ N = L.length := by omega
                have f5 : 0 ≤ (L.length : Int) := by omega
                have f4 : IntKind.i64.wrap ((L.length : Int) + (l.length : Int)) = ((L.length + l.length : Nat) : Int) := by rw [IntKind.wrap_i64]; omega
                have hone : ∀ v ∈ byteCells l, v.oneCell' = true := by
                  intro v hv
                  simp only [byteCells, List.mem_map] at hv
                  obtain ⟨x, _, rfl⟩ := hv
                  rfl
                have hbl : (byteCells l).length = l.length := by simp [byteCells]
                go_wp2_with fail
                go_region_law (refine step_copy_row rfl (.tmp 105) (.tmp 111) 165 165 rfl 5 Tryz.underlying165 info_sizeE (some ⟨g, L.length, none⟩) (some ⟨g2, 0, none⟩) (N - L.length) (N - L.length) l.length cap (by simp [Act.eval]) (by simp [Act.eval]) g L.length (rowE L N) 5 HC3.out (byteCells l) (by rw [hbl]; show l.length = min _ _; omega) ?hpos (by rw [rowE_len (by omega), hbl]; omega) hone ?_
                               case hpos =>
                                 intro _
                                 refine ⟨rfl, _, rfl, fun j v hv => ?_⟩
                                 simp only [byteCells, List.getElem?_map, Option.map_eq_some_iff] at hv
                                 obtain ⟨x, hx, rfl⟩ := hv
                                 have e : (⟨g2, 0, none⟩ : Addr).add j = ⟨g2, j, none⟩ := by unfold Addr.add; split <;> simp_all
                                 rw [e]; exact HCl.out j x hx
                               intro w2 hc2 hgr2)
                all_goals
                  have HC5 := Lib.hid (show CB w2 g 5 (rowE (L ++ l) N).toArray by
                    have h := hc2.out
                    rw [rowE_splice (by omega)] at h
                    exact h)
                  have HG5 := Lib.hid hgr2
                  clear hc2 hgr2
                  go_wp2_with fail
                  go_roundw
                  case rel =>
                    refine ⟨i + 1, by omega, by go_num, by rw [HE.out, HE1.out]; simp, ?_, ?_⟩
                    · exact HB3.out.drew.grown HG5.out HB3.out.size (fun k hk => by cases hk; exact hgw)
                    · show CB _ _ _ _
                      rw [HE.out, HE1.out]
                      exact HC5.out
                  case measure => simp [intOf]; omega
            · have hie : s.data.toList.take i = s.data.toList := by rw [show i = s.data.toList.length by rw [size_toList]; omega, List.take_length]
              rw [hie] at HC3
              have hconv := conv_string (P := Tryz.prog) wr 165 9 5 g N N (escL s.data.toList) Tryz.underlying165 Tryz.underlying5 Tryz.underlying9 HN.out.symm (fun j hj => by
                rw [HC3.out.c j]
                exact rowE_at HN.out hj)
              clear hie
              go_wp2_with fail
              go_ret
              exact ⟨rfl, HB3.out⟩

end Go.Proofs.YtbhildmalcfhiaaGreatDoor

namespace Go.Proofs.YtbhildmalcfhiaaGreatDoor
open Go.RowKit Go.Deep

/-- a block of bytes that begins with these -/
def BytesBlk (w : World) (g : Nat) (l : List UInt8) : Prop := ∃ cs fz, w.heap[g]? = some (.cells cs 5 fz) ∧ ∀ (j : Nat) (x : UInt8), l[j]? = some x → cs[j]? = some (.int .u8 x.toNat)
theorem BytesBlk.same {w w' : World} {g : Nat} {l : List UInt8} (h : BytesBlk w g l) (e : w'.heap[g]? = w.heap[g]?) : BytesBlk w' g l := by
  obtain ⟨cs, fz, h1, h2⟩ := h
  exact ⟨cs, fz, by rw [e]; exact h1, h2⟩
theorem BytesBlk.lt {w : World} {g : Nat} {l : List UInt8} (h : BytesBlk w g l) : g < w.heap.size := by
  obtain ⟨cs, fz, h1, h2⟩ := h
  exact (Array.getElem?_eq_some_iff.1 h1).1
theorem BytesBlk.cell {w : World} {g : Nat} {l : List UInt8} (h : BytesBlk w g l) (j : Nat) (x : UInt8) (hx : l[j]? = some x) : w.cell? ⟨g, j, none⟩ = some (.int .u8 x.toNat) := by
  obtain ⟨cs, fz, h1, h2⟩ := h
  rw [cell_of_row w g j cs 5 fz h1]
  exact h2 j x hx
def trS (m : Nat) : List Value := (trB.take m).map fun c => Value.string ⟨#[c]⟩
structure RepM (w : World) (b m : Nat) (A : Option Addr) (ct : Nat) (cs : Array Value) : Prop where
  blk : CB w b 269 cs
  sz : cs.size = 257
  top : cs[256]? = some (.slice A m ct)
  no : ∀ c : UInt8, c ∉ trB.take m → cs[c.toNat]? = some (.slice none 0 0)
  yes : ∀ (c : UInt8) (l : List UInt8), c ∈ trB.take m → escF c = some l → ∃ g cap, cs[c.toNat]? = some (.slice (some ⟨g, 0, none⟩) l.length cap) ∧ l.length ≤ cap ∧ cap ≤ 9223372036854775807 ∧ BytesBlk w g l
/-- old blocks stay: but for the own row of strings -/
theorem RepM.move {w w' : World} {b m : Nat} {A : Option Addr} {ct : Nat} {cs : Array Value} (h : RepM w b m A ct cs) (k : ∀ (g : Nat) (cs2 : Array Value) (t : TypeId) (fz : Nat × Nat), w.heap[g]? = some (.cells cs2 t fz) → t ≠ 9 → w'.heap[g]? = w.heap[g]?) : RepM w' b m A ct cs := by
  refine ⟨(k b _ _ _ h.blk (by decide)).trans h.blk, h.sz, h.top, h.no, fun c l hc hl => ?_⟩
  obtain ⟨g, cap, h1, h2, h3, h4⟩ := h.yes c l hc hl
  obtain ⟨cs2, fz, h5, _⟩ := id h4
  exact ⟨g, cap, h1, h2, h3, h4.same (k g _ _ _ h5 (by decide))⟩
theorem RepM.below {w w' : World} {b m : Nat} {A : Option Addr} {ct : Nat} {cs : Array Value} (h : RepM w b m A ct cs) (hb : Below w.heap.size w w') : RepM w' b m A ct cs :=
  h.move (fun g _ _ _ hg _ => hb.block g (Array.getElem?_eq_some_iff.1 hg).1)
theorem RepM.grown {w w' : World} {b m : Nat} {A : Option Addr} {ct : Nat} {cs : Array Value} {B n : Nat} {v : Value} {xs : List Value} (h : RepM w b m A ct cs) (ho : w.ownsRow B 9 1 v n xs) (hg : w.grownBy w' v.ownBlock) : RepM w' b m A ct cs := by
  refine h.move (fun g cs2 t fz hgb ht => hg.block g (Array.getElem?_eq_some_iff.1 hgb).1 ?_)
  intro e
  rcases ho.2 with ⟨rfl, rfl⟩ | ⟨g2, cap, cur, rfl, hB, hgg, _⟩
  · simp [Value.ownBlock] at e
  · have e2 : g = g2 := by simpa [Value.ownBlock] using e
    subst e2
    have := hgb.symm.trans hgg
    simp at this
    exact ht this.2.1
/-- one sign more -/
theorem RepM.step {w : World} {b m : Nat} {A : Option Addr} {ct : Nat} {cs : Array Value} (h : RepM w b m A ct cs) {c : UInt8} {l : List UInt8} (hm : trB.take (m + 1) = trB.take m ++ [c]) (hf : escF c = some l) {A' : Option Addr} {ct' g cap : Nat} (hlc : l.length ≤ cap) (hcap : cap ≤ 9223372036854775807)
    {w1 w2 w3 : World} (h1 : w1 = w.setCell ⟨b, 256, none⟩ (.slice A' (m + 1) ct')) (hb : Below w1.heap.size w1 w2) (hg : BytesBlk w2 g l) (h3 : w3 = w2.setCell ⟨b, c.toNat, none⟩ (.slice (some ⟨g, 0, none⟩) l.length cap)) :
    ∃ cs', RepM w3 b (m + 1) A' ct' cs' := by
  have hb1 : CB w1 b 269 (cs.setIfInBounds 256 (.slice A' (m + 1) ct')) := by rw [h1]; exact h.blk.put 256 _
  have hb2 : CB w2 b 269 (cs.setIfInBounds 256 (.slice A' (m + 1) ct')) := hb1.below hb
  have hne : ∀ (g' : Nat) (l' : List UInt8) (W : World), BytesBlk W g' l' → CB W b 269 (cs.setIfInBounds 256 (.slice A' (m + 1) ct')) → g' ≠ b := by
    rintro g' l' W ⟨cs2, fz, h5, _⟩ h6 rfl
    have h7 : W.heap[g']? = some (.cells (cs.setIfInBounds 256 (.slice A' (m + 1) ct')) 269 (0, 0)) := h6
    rw [h5] at h7
    simp at h7
  have hlt : c.toNat < 256 := c.toNat_lt
  have hset : ∀ (W : World) (o : Nat) (v : Value) (g' : Nat) (l' : List UInt8), BytesBlk W g' l' → g' ≠ b → BytesBlk (W.setCell ⟨b, o, none⟩ v) g' l' := fun W o v g' l' hB hn => hB.same ((grown_setB W b o v).block g' hB.lt (by simpa using hn))
  refine ⟨(cs.setIfInBounds 256 (.slice A' (m + 1) ct')).setIfInBounds c.toNat (.slice (some ⟨g, 0, none⟩) l.length cap), ?_, by simp [h.sz], ?_, fun d hd => ?_, fun d l' hd hl' => ?_⟩
  · rw [h3]; exact hb2.put _ _
  · rw [Array.getElem?_setIfInBounds_ne (by omega)]
    simp [h.sz]
  · rw [hm] at hd
    have hdc : d ≠ c := by rintro rfl; exact hd (by simp)
    have hd1 : d ∉ trB.take m := fun hx => hd (List.mem_append_left _ hx)
    have hdt : c.toNat ≠ d.toNat := fun e => hdc (UInt8.toNat_inj.1 e.symm)
    have hd256 : d.toNat < 256 := d.toNat_lt
    rw [Array.getElem?_setIfInBounds_ne hdt, Array.getElem?_setIfInBounds_ne (by omega)]
    exact h.no d hd1
  · by_cases hdc : d = c
    · subst hdc
      rw [hf] at hl'
      cases hl'
      exact ⟨g, cap, Array.getElem?_setIfInBounds_self_of_lt (by rw [Array.size_setIfInBounds, h.sz]; omega), hlc, hcap, by rw [h3]; exact hset _ _ _ _ _ hg (hne _ _ _ hg hb2)⟩
    · rw [hm] at hd
      have hd1 : d ∈ trB.take m := by
        rcases List.mem_append.1 hd with hx | hx
        · exact hx
        · simp at hx; exact absurd hx hdc
      obtain ⟨g', cap', k1, k2, k3, k4⟩ := h.yes d l' hd1 hl'
      have hdt : c.toNat ≠ d.toNat := fun e => hdc (UInt8.toNat_inj.1 e.symm)
      have hd256 : d.toNat < 256 := d.toNat_lt
      have n1 : g' ≠ b := by
        obtain ⟨cs2, fz, h5, _⟩ := id k4
        intro e
        have h7 : w.heap[b]? = some (.cells cs 269 (0, 0)) := h.blk
        rw [← e, h5] at h7
        simp at h7
      have k5 : BytesBlk w1 g' l' := by rw [h1]; exact hset _ _ _ _ _ k4 n1
      have k6 : BytesBlk w2 g' l' := k5.same (hb.block g' k5.lt)
      refine ⟨g', cap', ?_, k2, k3, by rw [h3]; exact hset _ _ _ _ _ k6 n1⟩
      rw [Array.getElem?_setIfInBounds_ne hdt, Array.getElem?_setIfInBounds_ne (by omega)]
      exact k1
theorem RepM.done {w : World} {b : Nat} {A : Option Addr} {ct : Nat} {cs : Array Value} {B : Nat} (h : RepM w b 4 A ct cs) (ho : w.ownsRow B 9 1 (.slice A 4 ct) 4 (trS 4)) : ReplAt w b := by
  have hcell : ∀ i, w.cell? ⟨b, i, none⟩ = cs[i]? := fun i => h.blk.c i
  have hmem : ∀ c : UInt8, c ∈ trB.take 4 ↔ escF c ≠ none := by
    intro c
    simp only [trB, List.take_succ_cons, List.take_zero, List.mem_cons, List.not_mem_nil, or_false, escF]
    constructor
    · rintro (rfl | rfl | rfl | rfl) <;> decide
    · intro hx
      by_cases h1 : c = 38
      · exact Or.inr (Or.inr (Or.inr h1))
      by_cases h2 : c = 60
      · exact Or.inr (Or.inr (Or.inl h2))
      by_cases h3 : c = 62
      · exact Or.inr (Or.inl h3)
      by_cases h4 : c = 34
      · exact Or.inl h4
      simp [h1, h2, h3, h4] at hx
  refine ⟨fun c hc => by rw [hcell]; exact h.no c (fun hx => (hmem c).1 hx hc), fun c l hc => ?_, ?_, ?_⟩
  · obtain ⟨g, cap, h1, h2, h3, h4⟩ := h.yes c l ((hmem c).2 (by rw [hc]; simp)) hc
    exact ⟨g, cap, by rw [hcell]; exact h1, h2, h3, h4.cell⟩
  · obtain ⟨A', c', e, hm, hnc, hA⟩ := own_form ho
    cases e
    obtain ⟨g, rfl, hBg, hgl⟩ := hA (by omega)
    refine ⟨g, ct, by rw [hcell]; exact h.top, hnc, hm, fun j x hj => own_cell ho ?_⟩
    rw [trS, show trB.take 4 = trB from rfl, List.getElem?_map, hj]; rfl
  · rw [h.blk.sh, h.sz]

end Go.Proofs.YtbhildmalcfhiaaGreatDoor

namespace Go.Proofs.YtbhildmalcfhiaaGreatDoor
open Go.RowKit Go.Deep

/-- what mark.Escape hands to NewReplacer -/
def oldNew : List ByteArray := [⟨#[38]⟩, ⟨#[38, 97, 109, 112, 59]⟩, ⟨#[60]⟩, ⟨#[38, 108, 116, 59]⟩, ⟨#[62]⟩, ⟨#[38, 103, 116, 59]⟩, ⟨#[34]⟩, ⟨#[38, 113, 117, 111, 116, 59]⟩]
theorem zeroE : Tryz.zeroCells269 = (List.replicate 257 (Value.slice none 0 0)).toArray := by kernel_rfl
theorem size_repl : (Tryz.prog.info? 269).map (·.size) = some 257 := by kernel_rfl
theorem RepM.start (w : World) (A : Option Addr) (ct : Nat) : RepM (w.alloc (.cells (Tryz.zeroCells269.toList.set 256 (.slice A 0 ct)).toArray 269)) w.heap.size 0 A ct (Tryz.zeroCells269.toList.set 256 (.slice A 0 ct)).toArray := by
  obtain ⟨n, hn⟩ : ∃ n, 257 = n := ⟨_, rfl⟩
  have hz : Tryz.zeroCells269.toList = List.replicate n (Value.slice none 0 0) := by rw [zeroE, hn]
  rw [hz]
  refine ⟨CB.new _ _ _, by simp; omega, by rw [List.getElem?_toArray, List.getElem?_set_self (by simp; omega)], fun c _ => ?_, fun c l hc => by simp at hc⟩
  have hlt : c.toNat < 256 := c.toNat_lt
  rw [List.getElem?_toArray, List.getElem?_set_ne (by omega), List.getElem?_replicate, if_pos (by omega)]
theorem bytes_below (w : World) (e : TypeId) (s : ByteArray) : Below w.heap.size w (Lib.bytesWorld w e s) := by
  refine ⟨?_, ?_, ?_, ?_, fun k hk => Lib.bytesWorld_at_old w e s k hk⟩
  · unfold Lib.bytesWorld World.freeze; split <;> rfl
  · unfold Lib.bytesWorld World.freeze; split <;> rfl
  · unfold Lib.bytesWorld World.freeze; split <;> rfl
  · rw [Lib.bytesWorld_size]; omega
theorem bytes_blk (w : World) (s : ByteArray) (l : List UInt8) (h : s.data.toList = l) : BytesBlk (Lib.bytesWorld w 5 s) w.heap.size l := by
  refine ⟨_, _, Lib.bytesWorld_at_new w _ s, fun j x hx => ?_⟩
  subst h
  have hj := (List.getElem?_eq_some_iff.1 hx).1
  rw [Lib.bytesCells, Array.getElem?_append_left (by simpa using hj), Array.getElem?_map]
  rw [Array.getElem?_toList] at hx
  rw [hx]; rfl
theorem own_setB {w : World} {B n b o : Nat} {v x : Value} {xs : List Value} {cs : Array Value} (h : w.ownsRow B 9 1 v n xs) (hc : CB w b 269 cs) : (w.setCell ⟨b, o, none⟩ x).ownsRow B 9 1 v n xs := by
  refine h.kept (grown_setB w b o x) ?_
  by_cases hx : v.ownBlock = some b
  · exfalso
    rcases h.2 with ⟨rfl, rfl⟩ | ⟨g2, cap, cur, rfl, hB, hgg, _⟩
    · simp [Value.ownBlock] at hx
    · have e2 : g2 = b := by simpa [Value.ownBlock] using hx
      subst e2
      have h7 : w.heap[g2]? = some (.cells cs 269 (0, 0)) := hc
      rw [hgg] at h7
      simp at h7
  · exact Or.inr hx
theorem own_belowB {w w' : World} {B n : Nat} {v : Value} {xs : List Value} (h : w.ownsRow B 9 1 v n xs) (hb : Below w.heap.size w w') : w'.ownsRow B 9 1 v n xs :=
  h.kept (row := none) ⟨hb.os, hb.tape, hb.output, hb.size, fun k hk _ => hb.block k hk⟩ (by cases hv : v.ownBlock <;> simp)
theorem one_strB2 (s : ByteArray) : ∀ u ∈ [Value.string s], u.oneCell' = true := by intro u hu; simp at hu; subst hu; rfl
def BuildPost (w : World) (e : Ending) (w' : World) : Prop := ∃ bb : Nat, e = .returned (.iface 270 (.pointer (some ⟨bb, 0, none⟩))) ∧ w.heap.size ≤ bb ∧ ReplAt w' bb ∧ Below w.heap.size w w'

theorem info_strE : (Tryz.prog.info? 9).map (fun i => (i.zero, i.size, i.bytes)) = some (some (.string ⟨#[]⟩), 1, 16) := by kernel_rfl

set_option maxRecDepth 100000 in
set_option maxHeartbeats 2000000 in
theorem build_q (br g cap : Nat) (w : World) (h : w.cell? ⟨br, 4, none⟩ = some (.slice (some ⟨g, 0, none⟩) 8 cap)) (hc : ∀ (j : Nat) (x : ByteArray), oldNew[j]? = some x → w.cell? ⟨g, j, none⟩ = some (.string x)) :
    Calls Tryz.prog 208 #[.pointer (some ⟨br, 0, none⟩)] w (BuildPost w) := by
  have HC := Lib.hid hc
  have c0 := hc 0 _ rfl
  have c1 := hc 1 _ rfl
  have c2 := hc 2 _ rfl
  have c3 := hc 3 _ rfl
  have c4 := hc 4 _ rfl
  have c5 := hc 5 _ rfl
  have c6 := hc 6 _ rfl
  have c7 := hc 7 _ rfl
  clear hc
  go_enter Tryz.func208, Tryz.ntmps208
  go_wp2_with fail
  go_loopw [4, 5] (fun t4 t5 wr => ∃ k : Nat, k ≤ 4 ∧ t5 = .int .i64 ((2 * k : Nat) : Int) ∧ t4 = .bool (decide (k = 0)) ∧ EqW wr w) (fun _ t _ => 8 - (intOf t).toNat)
  case atStart => exact ⟨0, Nat.zero_le _, rfl, rfl, EqW.refl _⟩
  case round =>
    obtain ⟨k, hk, rfl, rfl, hww⟩ := hrel
    unfold EqW at hww
    subst hww
    have hkk : k = 0 ∨ k = 1 ∨ k = 2 ∨ k = 3 ∨ k = 4 := by omega
    rcases hkk with rfl | rfl | rfl | rfl | rfl
    · go_wp2_with fail
      go_roundw
      case rel => exact ⟨1, by omega, by go_num, rfl, EqW.refl _⟩
      case measure => simp [intOf]
    · go_wp2_with fail
      go_roundw
      case rel => exact ⟨2, by omega, by go_num, rfl, EqW.refl _⟩
      case measure => simp [intOf]
    · go_wp2_with fail
      go_roundw
      case rel => exact ⟨3, by omega, by go_num, rfl, EqW.refl _⟩
      case measure => simp [intOf]
    · go_wp2_with fail
      go_roundw
      case rel => exact ⟨4, by omega, by go_num, rfl, EqW.refl _⟩
      case measure => simp [intOf]
    · obtain ⟨i0, hi, hz0, hz1, hz2⟩ := info_parts info_strE
      have HB0 := Lib.hid (Below.refl wr.heap.size wr)
      go_wp2_with (refine wpList_make_own _ rfl (.const (.int .i64 0)) (.tmp 93) 23 rfl wr.heap.size 9 i0 (.string ⟨#[]⟩) 1 Tryz.underlying23 hi hz0 hz1 .i64 .i64 4 4 rfl rfl rfl (by rw [hz2]; omega) (by unfold maxLen; omega) (Nat.le_refl _) ?_; intro w2 own2 hg2; have hst := run_storeCells_new (P := Tryz.prog) w2 269 Tryz.zeroCells269 (Tryz.zeroCells269.toList.set 256 (.slice (some ⟨wr.heap.size, 0, none⟩) 0 4)).toArray (by rw [zeroE]; exact size_repl) (by rw [zeroE]; rfl) (by rw [zeroE]; kernel_rfl); have HO2 := Lib.hid own2; have HG2 := Lib.hid hg2; clear own2 hg2)
      obtain ⟨bb, hbb⟩ : ∃ bb, w2.heap.size = bb := ⟨_, rfl⟩
      obtain ⟨w3, hw3⟩ : ∃ w3, w2.alloc (.cells (Tryz.zeroCells269.toList.set 256 (.slice (some ⟨wr.heap.size, 0, none⟩) 0 4)).toArray 269) = w3 := ⟨_, rfl⟩
      have HR3 := Lib.hid (show RepM w3 bb 0 (some ⟨wr.heap.size, 0, none⟩) 4 _ by rw [← hw3, ← hbb]; exact RepM.start _ _ _)
      have HO3 := Lib.hid (show w3.ownsRow wr.heap.size 9 1 (.slice (some ⟨wr.heap.size, 0, none⟩) 0 4) 0 (trS 0) by rw [← hw3]; exact HO2.out.alloc _)
      have HB2 := Lib.hid (HB0.out.grown HG2.out (Nat.le_refl _) (fun k hk => by cases hk))
      have HB3 := Lib.hid (show Below wr.heap.size wr w3 by rw [← hw3]; exact HB2.out.alloc HB2.out.size _)
      have hbw : wr.heap.size ≤ bb := by rw [← hbb]; exact HB2.out.size
      rw [hw3, hbb]
      clear hw3 hbb HO2 HG2 hst HB2 HB0
      obtain ⟨v0, rfl⟩ : ∃ v0 : World, v0 = wr := ⟨_, rfl⟩
      go_loopw [12] (fun t wr => ∃ (m : Nat) (A : Option Addr) (ct : Nat) (cs : Array Value), m ≤ 4 ∧ t = .int .i64 (6 - 2 * (m : Int)) ∧ Hid (RepM wr bb m A ct cs) ∧ Hid (wr.ownsRow v0.heap.size 9 1 (.slice A m ct) m (trS m)) ∧ Hid (Below v0.heap.size v0 wr)) (fun t _ => (intOf t + 2).toNat)
      case atStart => exact ⟨0, _, _, _, Nat.zero_le _, rfl, HR3.out, HO3.out, HB3.out⟩
      case round =>
        clear HR3 HO3 HB3
        obtain ⟨m, A, ct, cs, hm, rfl, HR, HO, HB⟩ := hrel
        have hmm : m = 0 ∨ m = 1 ∨ m = 2 ∨ m = 3 ∨ m = 4 := by omega
        rcases hmm with rfl | rfl | rfl | rfl | rfl
        · have p0 := Keeps.of_below HB.out _ _ c6
          have p1 := Keeps.of_below HB.out _ _ c7
          have x0 : wr.cell? ⟨bb, 34, none⟩ = some (.slice none 0 0) := (HR.out.blk.c 34).trans (HR.out.no 34 (by decide))
          have x1 : wr.cell? ⟨bb, 256, none⟩ = some (.slice A 0 ct) := (HR.out.blk.c 256).trans HR.out.top
          have xsh := HR.out.blk.sh
          rw [HR.out.sz] at xsh
          have heq : ∀ W : World, Sem.run Tryz.prog (binOp BinOp.eql 165 (Value.slice none 0 0) (Value.slice none 0 0)) W = Result.ok (Value.bool true) W := fun _ => rfl
          have e0 : ∀ h : 0 < (⟨#[34]⟩ : ByteArray).size, ((⟨#[34]⟩ : ByteArray)[0]'h) = 34 := fun _ => rfl
          have e1 : ∀ h : 0 < (⟨#[34]⟩ : ByteArray).size, (((⟨#[34]⟩ : ByteArray)[0]'h).toNat : Int) = 34 := fun _ => rfl
          have HSz := Lib.hid HB.out.size
          have bb2 := HR.out.blk.lt
          have hco : ∀ W : World, (convert 165 9 (.slice (some ⟨W.heap.size, 0, none⟩) 1 1)).run Tryz.prog (W.alloc (.cells #[.int .u8 34] 5)) = .ok (.string ⟨#[34]⟩) (W.alloc (.cells #[.int .u8 34] 5)) := fun W => conv_one W 34
          go_wp2_with (at_builtin; have hh := (HO.out.alloc (.cells #[.int .u8 34] 5)).alloc (.cells #[.string ⟨#[34]⟩] 9); have k3 : v0.heap.size ≤ ((wr.alloc (.cells #[.int .u8 34] 5)).alloc (.cells #[.string ⟨#[34]⟩] 9)).heap.size := (by have := HSz.out; simp; omega); have k4 := cell_new (wr.alloc (.cells #[.int .u8 34] 5)) [.string ⟨#[34]⟩] 9 (wr.heap.size + 1) (by simp); go_must (refine wpList_push _ rfl (.tmp 119) (.tmp 123) 23 rfl v0.heap.size 9 (.string ⟨#[]⟩) 1 16 Tryz.underlying23 info_strE rfl (by omega) (.slice A 0 ct) 0 _ rfl hh [.string ⟨#[34]⟩] rfl (wr.heap.size + 1) rfl k4 (one_strB2 _) (by omega) (by unfold maxLen; omega) k3 ?_); intro g1 ct1 w5 own5 hg5 hgg5 hb5; have HR5 := Lib.hid ((HR.out.below (((Below.refl _ _).alloc (Nat.le_refl _) (.cells #[.int .u8 34] 5)).alloc (by simp) (.cells #[.string ⟨#[34]⟩] 9))).grown hh hg5); have HO5 := Lib.hid own5; have HB5 := Lib.hid (((HB.out.alloc HSz.out (.cells #[.int .u8 34] 5)).alloc (by have := HSz.out; simp; omega) (.cells #[.string ⟨#[34]⟩] 9)).trans hb5); clear hh k3 k4 own5 hg5 hgg5 hb5 x0 x1 xsh; have y1 : w5.cell? ⟨bb, 256, none⟩ = some (.slice A 0 ct) := (HR5.out.blk.c 256).trans HR5.out.top; have yf := HR5.out.blk.f 256; have ysh := HR5.out.blk.sh; rw [HR5.out.sz] at ysh; have HCS := Lib.hid ((HR5.out.blk.put 256 (.slice (some ⟨g1, 0, none⟩) 1 ct1)).below (bytes_below _ 5 ⟨#[38, 113, 117, 111, 116, 59]⟩)); have z0 := (HCS.out.c 34).trans ((Array.getElem?_setIfInBounds_ne (by decide)).trans (HR5.out.no 34 (by decide))); have zf := HCS.out.f 34; have zsh := HCS.out.sh; rw [Array.size_setIfInBounds, HR5.out.sz] at zsh; have hcv := fun W : World => Lib.run_convert_string_bytes (P := Tryz.prog) W 9 165 5 ⟨#[38, 113, 117, 111, 116, 59]⟩ Tryz.underlying9 Tryz.underlying165 Tryz.underlying5)
          go_roundw
          case rel =>
            obtain ⟨w6, hw6⟩ : ∃ w6, w5.setCell ⟨bb, 256, none⟩ (.slice (some ⟨g1, 0, none⟩) 1 ct1) = w6 := ⟨_, rfl⟩
            have hz6 : w6.heap.size = w5.heap.size := by rw [← hw6]; simp
            have hc6 : CB w6 bb 269 _ := hw6 ▸ HR5.out.blk.put 256 (.slice (some ⟨g1, 0, none⟩) 1 ct1)
            have ho6 : w6.ownsRow v0.heap.size 9 1 (.slice (some ⟨g1, 0, none⟩) 1 ct1) 1 (trS 1) := hw6 ▸ own_setB HO5.out HR5.out.blk
            have hb6 : Below v0.heap.size v0 w6 := hw6 ▸ HB5.out.setCell (p := ⟨bb, 256, none⟩) hbw _
            have hbb6 := bytes_below w6 5 ⟨#[38, 113, 117, 111, 116, 59]⟩
            have hbk := bytes_blk w6 ⟨#[38, 113, 117, 111, 116, 59]⟩ [38, 113, 117, 111, 116, 59] rfl
            rw [hz6] at hbk
            have hge := grownCap_ge w6 6 0 5
            have hlm := grownCap_le_maxLen w6 6 0 5 (by simp only [maxLen]; omega)
            obtain ⟨cs', HR6⟩ := HR5.out.step (c := 34) (l := [38, 113, 117, 111, 116, 59]) rfl rfl (A' := some ⟨g1, 0, none⟩) (ct' := ct1) (cap := grownCap w6 6 0 5) hge hlm hw6.symm hbb6 hbk rfl
            rw [hw6]
            exact ⟨1, _, _, cs', by omega, rfl, HR6, own_setB (own_belowB ho6 hbb6) (hc6.below hbb6), (hb6.trans (hbb6.mono hb6.size)).setCell (p := ⟨bb, 34, none⟩) hbw _⟩
          case measure => simp [intOf]
        · have p0 := Keeps.of_below HB.out _ _ c4
          have p1 := Keeps.of_below HB.out _ _ c5
          have x0 : wr.cell? ⟨bb, 62, none⟩ = some (.slice none 0 0) := (HR.out.blk.c 62).trans (HR.out.no 62 (by decide))
          have x1 : wr.cell? ⟨bb, 256, none⟩ = some (.slice A 1 ct) := (HR.out.blk.c 256).trans HR.out.top
          have xsh := HR.out.blk.sh
          rw [HR.out.sz] at xsh
          have heq : ∀ W : World, Sem.run Tryz.prog (binOp BinOp.eql 165 (Value.slice none 0 0) (Value.slice none 0 0)) W = Result.ok (Value.bool true) W := fun _ => rfl
          have e0 : ∀ h : 0 < (⟨#[62]⟩ : ByteArray).size, ((⟨#[62]⟩ : ByteArray)[0]'h) = 62 := fun _ => rfl
          have e1 : ∀ h : 0 < (⟨#[62]⟩ : ByteArray).size, (((⟨#[62]⟩ : ByteArray)[0]'h).toNat : Int) = 62 := fun _ => rfl
          have HSz := Lib.hid HB.out.size
          have bb2 := HR.out.blk.lt
          have hco : ∀ W : World, (convert 165 9 (.slice (some ⟨W.heap.size, 0, none⟩) 1 1)).run Tryz.prog (W.alloc (.cells #[.int .u8 62] 5)) = .ok (.string ⟨#[62]⟩) (W.alloc (.cells #[.int .u8 62] 5)) := fun W => conv_one W 62
          go_wp2_with (at_builtin; have hh := (HO.out.alloc (.cells #[.int .u8 62] 5)).alloc (.cells #[.string ⟨#[62]⟩] 9); have k3 : v0.heap.size ≤ ((wr.alloc (.cells #[.int .u8 62] 5)).alloc (.cells #[.string ⟨#[62]⟩] 9)).heap.size := (by have := HSz.out; simp; omega); have k4 := cell_new (wr.alloc (.cells #[.int .u8 62] 5)) [.string ⟨#[62]⟩] 9 (wr.heap.size + 1) (by simp); go_must (refine wpList_push _ rfl (.tmp 119) (.tmp 123) 23 rfl v0.heap.size 9 (.string ⟨#[]⟩) 1 16 Tryz.underlying23 info_strE rfl (by omega) (.slice A 1 ct) 1 _ rfl hh [.string ⟨#[62]⟩] rfl (wr.heap.size + 1) rfl k4 (one_strB2 _) (by omega) (by unfold maxLen; omega) k3 ?_); intro g1 ct1 w5 own5 hg5 hgg5 hb5; have HR5 := Lib.hid ((HR.out.below (((Below.refl _ _).alloc (Nat.le_refl _) (.cells #[.int .u8 62] 5)).alloc (by simp) (.cells #[.string ⟨#[62]⟩] 9))).grown hh hg5); have HO5 := Lib.hid own5; have HB5 := Lib.hid (((HB.out.alloc HSz.out (.cells #[.int .u8 62] 5)).alloc (by have := HSz.out; simp; omega) (.cells #[.string ⟨#[62]⟩] 9)).trans hb5); clear hh k3 k4 own5 hg5 hgg5 hb5 x0 x1 xsh; have y1 : w5.cell? ⟨bb, 256, none⟩ = some (.slice A 1 ct) := (HR5.out.blk.c 256).trans HR5.out.top; have yf := HR5.out.blk.f 256; have ysh := HR5.out.blk.sh; rw [HR5.out.sz] at ysh; have HCS := Lib.hid ((HR5.out.blk.put 256 (.slice (some ⟨g1, 0, none⟩) 2 ct1)).below (bytes_below _ 5 ⟨#[38, 103, 116, 59]⟩)); have z0 := (HCS.out.c 62).trans ((Array.getElem?_setIfInBounds_ne (by decide)).trans (HR5.out.no 62 (by decide))); have zf := HCS.out.f 62; have zsh := HCS.out.sh; rw [Array.size_setIfInBounds, HR5.out.sz] at zsh; have hcv := fun W : World => Lib.run_convert_string_bytes (P := Tryz.prog) W 9 165 5 ⟨#[38, 103, 116, 59]⟩ Tryz.underlying9 Tryz.underlying165 Tryz.underlying5)
          go_roundw
          case rel =>
            obtain ⟨w6, hw6⟩ : ∃ w6, w5.setCell ⟨bb, 256, none⟩ (.slice (some ⟨g1, 0, none⟩) 2 ct1) = w6 := ⟨_, rfl⟩
            have hz6 : w6.heap.size = w5.heap.size := by rw [← hw6]; simp
            have hc6 : CB w6 bb 269 _ := hw6 ▸ HR5.out.blk.put 256 (.slice (some ⟨g1, 0, none⟩) 2 ct1)
            have ho6 : w6.ownsRow v0.heap.size 9 1 (.slice (some ⟨g1, 0, none⟩) 2 ct1) 2 (trS 2) := hw6 ▸ own_setB HO5.out HR5.out.blk
            have hb6 : Below v0.heap.size v0 w6 := hw6 ▸ HB5.out.setCell (p := ⟨bb, 256, none⟩) hbw _
            have hbb6 := bytes_below w6 5 ⟨#[38, 103, 116, 59]⟩
            have hbk := bytes_blk w6 ⟨#[38, 103, 116, 59]⟩ [38, 103, 116, 59] rfl
            rw [hz6] at hbk
            have hge := grownCap_ge w6 4 0 5
            have hlm := grownCap_le_maxLen w6 4 0 5 (by simp only [maxLen]; omega)
            obtain ⟨cs', HR6⟩ := HR5.out.step (c := 62) (l := [38, 103, 116, 59]) rfl rfl (A' := some ⟨g1, 0, none⟩) (ct' := ct1) (cap := grownCap w6 4 0 5) hge hlm hw6.symm hbb6 hbk rfl
            rw [hw6]
            exact ⟨2, _, _, cs', by omega, rfl, HR6, own_setB (own_belowB ho6 hbb6) (hc6.below hbb6), (hb6.trans (hbb6.mono hb6.size)).setCell (p := ⟨bb, 62, none⟩) hbw _⟩
          case measure => simp [intOf]
        · have p0 := Keeps.of_below HB.out _ _ c2
          have p1 := Keeps.of_below HB.out _ _ c3
          have x0 : wr.cell? ⟨bb, 60, none⟩ = some (.slice none 0 0) := (HR.out.blk.c 60).trans (HR.out.no 60 (by decide))
          have x1 : wr.cell? ⟨bb, 256, none⟩ = some (.slice A 2 ct) := (HR.out.blk.c 256).trans HR.out.top
          have xsh := HR.out.blk.sh
          rw [HR.out.sz] at xsh
          have heq : ∀ W : World, Sem.run Tryz.prog (binOp BinOp.eql 165 (Value.slice none 0 0) (Value.slice none 0 0)) W = Result.ok (Value.bool true) W := fun _ => rfl
          have e0 : ∀ h : 0 < (⟨#[60]⟩ : ByteArray).size, ((⟨#[60]⟩ : ByteArray)[0]'h) = 60 := fun _ => rfl
          have e1 : ∀ h : 0 < (⟨#[60]⟩ : ByteArray).size, (((⟨#[60]⟩ : ByteArray)[0]'h).toNat : Int) = 60 := fun _ => rfl
          have HSz := Lib.hid HB.out.size
          have bb2 := HR.out.blk.lt
          have hco : ∀ W : World, (convert 165 9 (.slice (some ⟨W.heap.size, 0, none⟩) 1 1)).run Tryz.prog (W.alloc (.cells #[.int .u8 60] 5)) = .ok (.string ⟨#[60]⟩) (W.alloc (.cells #[.int .u8 60] 5)) := fun W => conv_one W 60
          go_wp2_with (at_builtin; have hh := (HO.out.alloc (.cells #[.int .u8 60] 5)).alloc (.cells #[.string ⟨#[60]⟩] 9); have k3 : v0.heap.size ≤ ((wr.alloc (.cells #[.int .u8 60] 5)).alloc (.cells #[.string ⟨#[60]⟩] 9)).heap.size := (by have := HSz.out; simp; omega); have k4 := cell_new (wr.alloc (.cells #[.int .u8 60] 5)) [.string ⟨#[60]⟩] 9 (wr.heap.size + 1) (by simp); go_must (refine wpList_push _ rfl (.tmp 119) (.tmp 123) 23 rfl v0.heap.size 9 (.string ⟨#[]⟩) 1 16 Tryz.underlying23 info_strE rfl (by omega) (.slice A 2 ct) 2 _ rfl hh [.string ⟨#[60]⟩] rfl (wr.heap.size + 1) rfl k4 (one_strB2 _) (by omega) (by unfold maxLen; omega) k3 ?_); intro g1 ct1 w5 own5 hg5 hgg5 hb5; have HR5 := Lib.hid ((HR.out.below (((Below.refl _ _).alloc (Nat.le_refl _) (.cells #[.int .u8 60] 5)).alloc (by simp) (.cells #[.string ⟨#[60]⟩] 9))).grown hh hg5); have HO5 := Lib.hid own5; have HB5 := Lib.hid (((HB.out.alloc HSz.out (.cells #[.int .u8 60] 5)).alloc (by have := HSz.out; simp; omega) (.cells #[.string ⟨#[60]⟩] 9)).trans hb5); clear hh k3 k4 own5 hg5 hgg5 hb5 x0 x1 xsh; have y1 : w5.cell? ⟨bb, 256, none⟩ = some (.slice A 2 ct) := (HR5.out.blk.c 256).trans HR5.out.top; have yf := HR5.out.blk.f 256; have ysh := HR5.out.blk.sh; rw [HR5.out.sz] at ysh; have HCS := Lib.hid ((HR5.out.blk.put 256 (.slice (some ⟨g1, 0, none⟩) 3 ct1)).below (bytes_below _ 5 ⟨#[38, 108, 116, 59]⟩)); have z0 := (HCS.out.c 60).trans ((Array.getElem?_setIfInBounds_ne (by decide)).trans (HR5.out.no 60 (by decide))); have zf := HCS.out.f 60; have zsh := HCS.out.sh; rw [Array.size_setIfInBounds, HR5.out.sz] at zsh; have hcv := fun W : World => Lib.run_convert_string_bytes (P := Tryz.prog) W 9 165 5 ⟨#[38, 108, 116, 59]⟩ Tryz.underlying9 Tryz.underlying165 Tryz.underlying5)
          go_roundw
          case rel =>
            obtain ⟨w6, hw6⟩ : ∃ w6, w5.setCell ⟨bb, 256, none⟩ (.slice (some ⟨g1, 0, none⟩) 3 ct1) = w6 := ⟨_, rfl⟩
            have hz6 : w6.heap.size = w5.heap.size := by rw [← hw6]; simp
            have hc6 : CB w6 bb 269 _ := hw6 ▸ HR5.out.blk.put 256 (.slice (some ⟨g1, 0, none⟩) 3 ct1)
            have ho6 : w6.ownsRow v0.heap.size 9 1 (.slice (some ⟨g1, 0, none⟩) 3 ct1) 3 (trS 3) := hw6 ▸ own_setB HO5.out HR5.out.blk
            have hb6 : Below v0.heap.size v0 w6 := hw6 ▸ HB5.out.setCell (p := ⟨bb, 256, none⟩) hbw _
            have hbb6 := bytes_below w6 5 ⟨#[38, 108, 116, 59]⟩
            have hbk := bytes_blk w6 ⟨#[38, 108, 116, 59]⟩ [38, 108, 116, 59] rfl
            rw [hz6] at hbk
            have hge := grownCap_ge w6 4 0 5
            have hlm := grownCap_le_maxLen w6 4 0 5 (by simp only [maxLen]; omega)
            obtain ⟨cs', HR6⟩ := HR5.out.step (c := 60) (l := [38, 108, 116, 59]) rfl rfl (A' := some ⟨g1, 0, none⟩) (ct' := ct1) (cap := grownCap w6 4 0 5) hge hlm hw6.symm hbb6 hbk rfl
            rw [hw6]
            exact ⟨3, _, _, cs', by omega, rfl, HR6, own_setB (own_belowB ho6 hbb6) (hc6.below hbb6), (hb6.trans (hbb6.mono hb6.size)).setCell (p := ⟨bb, 60, none⟩) hbw _⟩
          case measure => simp [intOf]
        · have p0 := Keeps.of_below HB.out _ _ c0
          have p1 := Keeps.of_below HB.out _ _ c1
          have x0 : wr.cell? ⟨bb, 38, none⟩ = some (.slice none 0 0) := (HR.out.blk.c 38).trans (HR.out.no 38 (by decide))
          have x1 : wr.cell? ⟨bb, 256, none⟩ = some (.slice A 3 ct) := (HR.out.blk.c 256).trans HR.out.top
          have xsh := HR.out.blk.sh
          rw [HR.out.sz] at xsh
          have heq : ∀ W : World, Sem.run Tryz.prog (binOp BinOp.eql 165 (Value.slice none 0 0) (Value.slice none 0 0)) W = Result.ok (Value.bool true) W := fun _ => rfl
          have e0 : ∀ h : 0 < (⟨#[38]⟩ : ByteArray).size, ((⟨#[38]⟩ : ByteArray)[0]'h) = 38 := fun _ => rfl
          have e1 : ∀ h : 0 < (⟨#[38]⟩ : ByteArray).size, (((⟨#[38]⟩ : ByteArray)[0]'h).toNat : Int) = 38 := fun _ => rfl
          have HSz := Lib.hid HB.out.size
          have bb2 := HR.out.blk.lt
          have hco : ∀ W : World, (convert 165 9 (.slice (some ⟨W.heap.size, 0, none⟩) 1 1)).run Tryz.prog (W.alloc (.cells #[.int .u8 38] 5)) = .ok (.string ⟨#[38]⟩) (W.alloc (.cells #[.int .u8 38] 5)) := fun W => conv_one W 38
          go_wp2_with (at_builtin; have hh := (HO.out.alloc (.cells #[.int .u8 38] 5)).alloc (.cells #[.string ⟨#[38]⟩] 9); have k3 : v0.heap.size ≤ ((wr.alloc (.cells #[.int .u8 38] 5)).alloc (.cells #[.string ⟨#[38]⟩] 9)).heap.size := (by have := HSz.out; simp; omega); have k4 := cell_new (wr.alloc (.cells #[.int .u8 38] 5)) [.string ⟨#[38]⟩] 9 (wr.heap.size + 1) (by simp); go_must (refine wpList_push _ rfl (.tmp 119) (.tmp 123) 23 rfl v0.heap.size 9 (.string ⟨#[]⟩) 1 16 Tryz.underlying23 info_strE rfl (by omega) (.slice A 3 ct) 3 _ rfl hh [.string ⟨#[38]⟩] rfl (wr.heap.size + 1) rfl k4 (one_strB2 _) (by omega) (by unfold maxLen; omega) k3 ?_); intro g1 ct1 w5 own5 hg5 hgg5 hb5; have HR5 := Lib.hid ((HR.out.below (((Below.refl _ _).alloc (Nat.le_refl _) (.cells #[.int .u8 38] 5)).alloc (by simp) (.cells #[.string ⟨#[38]⟩] 9))).grown hh hg5); have HO5 := Lib.hid own5; have HB5 := Lib.hid (((HB.out.alloc HSz.out (.cells #[.int .u8 38] 5)).alloc (by have := HSz.out; simp; omega) (.cells #[.string ⟨#[38]⟩] 9)).trans hb5); clear hh k3 k4 own5 hg5 hgg5 hb5 x0 x1 xsh; have y1 : w5.cell? ⟨bb, 256, none⟩ = some (.slice A 3 ct) := (HR5.out.blk.c 256).trans HR5.out.top; have yf := HR5.out.blk.f 256; have ysh := HR5.out.blk.sh; rw [HR5.out.sz] at ysh; have HCS := Lib.hid ((HR5.out.blk.put 256 (.slice (some ⟨g1, 0, none⟩) 4 ct1)).below (bytes_below _ 5 ⟨#[38, 97, 109, 112, 59]⟩)); have z0 := (HCS.out.c 38).trans ((Array.getElem?_setIfInBounds_ne (by decide)).trans (HR5.out.no 38 (by decide))); have zf := HCS.out.f 38; have zsh := HCS.out.sh; rw [Array.size_setIfInBounds, HR5.out.sz] at zsh; have hcv := fun W : World => Lib.run_convert_string_bytes (P := Tryz.prog) W 9 165 5 ⟨#[38, 97, 109, 112, 59]⟩ Tryz.underlying9 Tryz.underlying165 Tryz.underlying5)
          go_roundw
          case rel =>
            obtain ⟨w6, hw6⟩ : ∃ w6, w5.setCell ⟨bb, 256, none⟩ (.slice (some ⟨g1, 0, none⟩) 4 ct1) = w6 := ⟨_, rfl⟩
            have hz6 : w6.heap.size = w5.heap.size := by rw [← hw6]; simp
            have hc6 : CB w6 bb 269 _ := hw6 ▸ HR5.out.blk.put 256 (.slice (some ⟨g1, 0, none⟩) 4 ct1)
            have ho6 : w6.ownsRow v0.heap.size 9 1 (.slice (some ⟨g1, 0, none⟩) 4 ct1) 4 (trS 4) := hw6 ▸ own_setB HO5.out HR5.out.blk
            have hb6 : Below v0.heap.size v0 w6 := hw6 ▸ HB5.out.setCell (p := ⟨bb, 256, none⟩) hbw _
            have hbb6 := bytes_below w6 5 ⟨#[38, 97, 109, 112, 59]⟩
            have hbk := bytes_blk w6 ⟨#[38, 97, 109, 112, 59]⟩ [38, 97, 109, 112, 59] rfl
            rw [hz6] at hbk
            have hge := grownCap_ge w6 5 0 5
            have hlm := grownCap_le_maxLen w6 5 0 5 (by simp only [maxLen]; omega)
            obtain ⟨cs', HR6⟩ := HR5.out.step (c := 38) (l := [38, 97, 109, 112, 59]) rfl rfl (A' := some ⟨g1, 0, none⟩) (ct' := ct1) (cap := grownCap w6 5 0 5) hge hlm hw6.symm hbb6 hbk rfl
            rw [hw6]
            exact ⟨4, _, _, cs', by omega, rfl, HR6, own_setB (own_belowB ho6 hbb6) (hc6.below hbb6), (hb6.trans (hbb6.mono hb6.size)).setCell (p := ⟨bb, 38, none⟩) hbw _⟩
          case measure => simp [intOf]
        · go_wp2_with fail
          go_ret
          exact ⟨bb, rfl, hbw, HR.out.done HO.out, HB.out⟩

end Go.Proofs.YtbhildmalcfhiaaGreatDoor

namespace Go.Proofs.YtbhildmalcfhiaaGreatDoor
open Go.RowKit Go.Deep

def oldV : List Value := oldNew.map Value.string
theorem oldV_one : ∀ u ∈ oldV, u.oneCell' = true := by
  intro u hu
  simp only [oldV, List.mem_map] at hu
  obtain ⟨x, _, rfl⟩ := hu
  rfl
def NewPost (w : World) (e : Ending) (w' : World) : Prop := ∃ (br : Nat) (A : Option Addr) (c : Nat), e = .returned (.pointer (some ⟨br, 0, none⟩)) ∧ w.heap.size ≤ br ∧ CB w' br 223 #[.int .u32 0, .int .i32 0, .int .u32 0, .nilIface, .slice A 8 c] ∧ w'.ownsRow w.heap.size 9 1 (.slice A 8 c) 8 oldV ∧ Below w.heap.size w w'

set_option maxRecDepth 100000 in
set_option maxHeartbeats 2000000 in
theorem newReplacer_q (g c : Nat) (w : World) (hc : ∀ (j : Nat) (x : ByteArray), oldNew[j]? = some x → w.cell? ⟨g, j, none⟩ = some (.string x)) :
    Calls Tryz.prog 160 #[.slice (some ⟨g, 0, none⟩) 8 c] w (NewPost w) := by
  obtain ⟨i0, hi, hz0, hz1, hz2⟩ := info_parts info_strE
  have HC := Lib.hid hc; clear hc
  go_enter Tryz.func160, Tryz.ntmps160
  go_wp2_with (at_builtin; go_must (refine wpList_append_own_at (P := Tryz.prog) w rfl (.const (.slice none 0 0)) (.tmp 8) 23 rfl w.heap.size 9 i0 (.string ⟨#[]⟩) 1 16 Tryz.underlying23 hi hz0 hz1 hz2 rfl (by omega) _ 0 [] rfl (World.ownsRow_nil w _ 9 1) ⟨g, 0, none⟩ 8 c oldV rfl rfl ?hcell oldV_one (by unfold maxLen; omega) (by omega) (Nat.le_refl _) ?_))
  case hcell =>
    intro j u hj
    simp only [oldV, List.getElem?_map, Option.map_eq_some_iff] at hj
    obtain ⟨x, hx, rfl⟩ := hj
    have hadd : (⟨g, 0, none⟩ : Addr).add j = ⟨g, j, none⟩ := by unfold Addr.add; split <;> simp_all
    rw [hadd]
    exact HC.out j x hx
  intro v' w1 own1 hg1 _ _
  have own1 : w1.ownsRow w.heap.size 9 1 v' 8 oldV := own1
  obtain ⟨A2, c2, rfl, _, _, _⟩ := own_form own1
  have HB := below_of_grown hg1 (Nat.le_refl _) (fun g hg => by simp [Value.ownBlock] at hg)
  go_wp2_with fail
  go_ret
  exact ⟨w1.heap.size, A2, c2, rfl, HB.size, CB.new _ _ _, own_alloc own1 _, HB.alloc HB.size _⟩

end Go.Proofs.YtbhildmalcfhiaaGreatDoor

namespace Go.Proofs.YtbhildmalcfhiaaGreatDoor
open Go.RowKit Go.Deep

theorem escF_one {c : UInt8} {l : List UInt8} (h : escF c = some l) : ∃ x, l[0]? = some x := by
  unfold escF at h
  repeat' split at h
  all_goals (first | (cases h; done) | (obtain rfl := (Option.some.inj h); exact ⟨_, rfl⟩))
theorem ReplAt.set {w : World} {b br : Nat} {cs : Array Value} {d : Int} (h : ReplAt w b) (hc : CB w br 223 cs) (h0 : cs[0]? = some (.int .u32 d)) (o : Nat) (v : Value) : ReplAt (w.setCell ⟨br, o, none⟩ v) b := by
  have hb : b ≠ br := by
    intro e
    subst e
    have h1 := h.sh
    rw [hc.sh] at h1
    have h2 : (223 : TypeId) = 269 := congrArg Prod.fst (Option.some.inj h1)
    exact absurd h2 (by decide)
  have hk : ∀ (g j : Nat), g ≠ br → (w.setCell ⟨br, o, none⟩ v).cell? ⟨g, j, none⟩ = w.cell? ⟨g, j, none⟩ := fun g j hg => World.cell?_setCell_other _ _ _ _ (fun e => hg (by have := congrArg Addr.block e; simpa using this.symm))
  refine ⟨fun c hcc => (hk _ _ hb).trans (h.no c hcc), fun c l hcc => ?_, ?_, ?_⟩
  · obtain ⟨g, cap, h1, h2, h3, h4⟩ := h.yes c l hcc
    obtain ⟨x, hx⟩ := escF_one hcc
    have hg : g ≠ br := by
      intro e
      subst e
      have h5 := h4 0 x hx
      rw [hc.c, h0] at h5
      simp at h5
    exact ⟨g, cap, (hk _ _ hb).trans h1, h2, h3, fun j x hj => (hk _ _ hg).trans (h4 j x hj)⟩
  · obtain ⟨g, cap, h1, h2, h3, h4⟩ := h.tr
    have hg : g ≠ br := by
      intro e
      subst e
      have h5 := h4 0 _ rfl
      rw [hc.c, h0] at h5
      simp at h5
    exact ⟨g, cap, (hk _ _ hb).trans h1, h2, h3, fun j x hj => (hk _ _ hg).trans (h4 j x hj)⟩
  · have hs := h.sh
    unfold World.shape? at hs ⊢
    rw [(grown_setB w br o v).block b (by have := h.no 0 (by decide); exact World.block_lt_of_cell? _ _ this) (by simpa using hb)]
    exact hs

theorem disable (w : World) : (callFunc 237 #[]).run Tryz.prog w = .ok (.value (.tuple #[])) w := run_call_mark0 Tryz.func237 (by kernel_rfl) (by kernel_rfl) (by kernel_rfl) .disable (by kernel_rfl) w
theorem enable (w : World) : (callFunc 239 #[]).run Tryz.prog w = .ok (.value (.tuple #[])) w := run_call_mark0 Tryz.func239 (by kernel_rfl) (by kernel_rfl) (by kernel_rfl) .enable (by kernel_rfl) w
theorem acquire (a : Addr) (w : World) : (callFunc 240 #[.pointer (some a)]).run Tryz.prog w = .ok (.value (.tuple #[])) w := run_call_marked Tryz.func240 (by kernel_rfl) (by kernel_rfl) (by kernel_rfl) .acquire (by kernel_rfl) a w
theorem releaseMerge (a : Addr) (w : World) : (callFunc 242 #[.pointer (some a)]).run Tryz.prog w = .ok (.value (.tuple #[])) w := run_call_marked Tryz.func242 (by kernel_rfl) (by kernel_rfl) (by kernel_rfl) .releaseMerge (by kernel_rfl) a w

set_option maxRecDepth 100000 in
set_option maxHeartbeats 1600000 in
theorem store_deferred (a : Addr) (x : Value) (u : FrameMode) (w : World) (hc : w.cell? a = some x) (hz : w.frozen? a = false) :
    CallsD Tryz.prog 219 #[.pointer (some a), .bool true] u w fun e u' w' => u' = u ∧ (e = .returned (.tuple #[]) ∧ w' = w.drew.setCell a (.int .u32 1)) := by
  have hc' : w.drew.cell? a = some x := by go_simp
  have hz' : w.drew.frozen? a = false := by go_simp
  have hst := run_call_store (P := Tryz.prog) Tryz.func229 (by kernel_rfl) (by kernel_rfl) (by kernel_rfl) (by kernel_rfl) (k := .u32) (y := 1) hc' hz'
  go_enter_d Tryz.func219, Tryz.ntmps219
  go_wp2
  go_region_calls
  all_goals (go_end0; exact ⟨rfl, rfl⟩)

set_option maxRecDepth 100000 in
set_option maxHeartbeats 1600000 in
theorem unlock_deferred (a : Addr) (u : FrameMode) (w : World) (hc : w.cell? a = some (.int .i32 1)) (hz : w.frozen? a = false) :
    CallsD Tryz.prog 218 #[.pointer (some a)] u w fun e u' w' => u' = u ∧ (e = .returned (.tuple #[]) ∧ w' = w.setCell a (.int .i32 0)) := by
  have hd := disable
  have he := enable
  have hr := releaseMerge
  have hadd := run_call_add (P := Tryz.prog) Tryz.func243 (by kernel_rfl) (by kernel_rfl) (by kernel_rfl) .i32 (by kernel_rfl) (y := -1) (s := 0) hc hz (by simp [go_sem]; rfl)
  have hcv := run_convert_to_unsafe (P := Tryz.prog) (src := 294) (dst := 110) Tryz.underlying294 Tryz.underlying110 (by kernel_rfl) hc
  go_enter_d Tryz.func218, Tryz.ntmps218
  go_wp2
  go_end0
  go_wp2
  first | done | (go_end0; exact ⟨rfl, rfl⟩)

set_option maxRecDepth 100000 in
set_option maxHeartbeats 1600000 in
theorem lock_free (a : Addr) (w : World) (hc : w.cell? a = some (.int .i32 0)) (hz : w.frozen? a = false) :
    Calls Tryz.prog 217 #[.pointer (some a)] w fun e w' => e = .returned (.tuple #[]) ∧ w' = w.setCell a (.int .i32 1) := by
  have hd := disable
  have he := enable
  have ha := acquire
  have hcas := run_call_cas_hit (P := Tryz.prog) Tryz.func238 (by kernel_rfl) (by kernel_rfl) (by kernel_rfl) .i32 (by kernel_rfl) (y := 1) hc hz
  have hc' : (w.setCell a (.int .i32 1)).cell? a = some (.int .i32 1) := World.cell?_setCell_same w a _ hc
  have hcv := run_convert_to_unsafe (P := Tryz.prog) (src := 294) (dst := 110) Tryz.underlying294 Tryz.underlying110 (by kernel_rfl) hc'
  go_enter Tryz.func217, Tryz.ntmps217
  go_wp2
  first | go_end0 | (simp only [Exit.inBlock, Exit.then]; refine bodyPost_ret (results_none rfl _ _ _) rfl ?_) | refine bodyPost_ret (results_none rfl _ _ _) rfl ?_
  go_wp2
  first | done | (go_end0; exact ⟨rfl, rfl⟩)

end Go.Proofs.YtbhildmalcfhiaaGreatDoor

namespace Go.Proofs.YtbhildmalcfhiaaGreatDoor
open Go.RowKit Go.Deep

theorem CB.setO {w : World} {n m o : Nat} {t : TypeId} {cs : Array Value} (h : CB w n t cs) (hne : n ≠ m) (v : Value) : CB (w.setCell ⟨m, o, none⟩ v) n t cs := h.other (grown_setB w m o v) (by simpa using hne)
def ifB (bb : Nat) : Value := .iface 270 (.pointer (some ⟨bb, 0, none⟩))
/-- the replacer has been built -/
def Built (B br : Nat) (d m : Int) (N : Nat) (w w' : World) : Prop := ∃ bb : Nat, CB w' br 223 #[.int .u32 d, .int .i32 m, .int .u32 0, ifB bb, .slice none 0 0] ∧ ReplAt w' bb ∧ N ≤ bb ∧ Below B w w'

set_option maxRecDepth 100000 in
set_option maxHeartbeats 2000000 in
theorem buildOnce_q (B br g cap : Nat) (m : Int) (w : World) (hB : B ≤ br) (hr : CB w br 223 #[.int .u32 0, .int .i32 m, .int .u32 0, .nilIface, .slice (some ⟨g, 0, none⟩) 8 cap])
    (hc : ∀ (j : Nat) (x : ByteArray), oldNew[j]? = some x → w.cell? ⟨g, j, none⟩ = some (.string x)) :
    Calls Tryz.prog 185 #[.pointer (some ⟨br, 0, none⟩)] w (fun e w' => e = .returned (.tuple #[]) ∧ Built B br 0 m w.heap.size w w') := by
  have HC := Lib.hid hc
  clear hc
  have hlt := hr.lt
  have c4 : w.cell? ⟨br, 4, none⟩ = some (.slice (some ⟨g, 0, none⟩) 8 cap) := (hr.c 4).trans rfl
  have HR := Lib.hid hr
  clear hr
  go_enter Tryz.func185, Tryz.ntmps185
  go_wp2_with (go_at_call 208; refine (build_q br g cap w c4 HC.out).mono ?_; rintro e w1 ⟨bb, rfl, hbb, hra, hbw⟩; have HRA := Lib.hid hra; clear hra; have HBW := Lib.hid hbw; clear hbw; have R1 := HR.out.below HBW.out; have k3 := (R1.c 3).trans rfl; have k4 := (R1.c 4).trans rfl; have f3 := R1.f 3; have f4 := R1.f 4; have HR1 := Lib.hid R1; clear R1)
  go_end0
  refine ⟨rfl, bb, ?_, (HRA.out.set HR1.out rfl 3 _).set (HR1.out.put 3 _) rfl 4 _, hbb, ?_⟩
  · exact (HR1.out.put 3 (ifB bb)).put 4 (.slice none 0 0)
  · exact ((HBW.out.mono (Nat.le_of_lt (Nat.lt_of_le_of_lt hB hlt))).setCell hB _).setCell hB _

set_option maxRecDepth 100000 in
set_option maxHeartbeats 2000000 in
theorem slow_q (B br g cap : Nat) (w : World) (hB : B ≤ br) (hr : CB w br 223 #[.int .u32 0, .int .i32 0, .int .u32 0, .nilIface, .slice (some ⟨g, 0, none⟩) 8 cap])
    (hc : ∀ (j : Nat) (x : ByteArray), oldNew[j]? = some x → w.cell? ⟨g, j, none⟩ = some (.string x)) :
    Calls Tryz.prog 207 #[.pointer (some ⟨br, 0, none⟩), .func (.func 185) #[.pointer (some ⟨br, 0, none⟩)] #[]] w (fun e w' => e = .returned (.tuple #[]) ∧ Built B br 1 0 w.heap.size w w') := by
  have hgr := grown_setB w br 1 (.int .i32 1)
  have hr1 : CB (w.setCell ⟨br, 1, none⟩ (.int .i32 1)) br 223 #[.int .u32 0, .int .i32 1, .int .u32 0, .nilIface, .slice (some ⟨g, 0, none⟩) 8 cap] := hr.put 1 _
  have hgb : g ≠ br := by
    intro e
    subst e
    have h5 := hc 0 _ rfl
    rw [hr.c] at h5
    simp at h5
  have hc1 : ∀ (j : Nat) (x : ByteArray), oldNew[j]? = some x → (w.setCell ⟨br, 1, none⟩ (.int .i32 1)).cell? ⟨g, j, none⟩ = some (.string x) := fun j x hj => by
    rw [World.cell?_setCell_other _ _ _ _ (fun e => hgb (by have := congrArg Addr.block e; simpa using this.symm))]
    exact hc j x hj
  have hl := run_call_load (P := Tryz.prog) Tryz.func216 (by kernel_rfl) (by kernel_rfl) (by kernel_rfl) .u32 (by kernel_rfl) (w := (w.setCell ⟨br, 1, none⟩ (.int .i32 1))) (a := ⟨br, 0, none⟩) (x := 0) ((hr1.c 0).trans rfl)
  have hnot : ∀ (x : Bool) (w : World), (Op.unary .not (.bool x)).run Tryz.prog w = .ok (.bool (!x)) w := fun _ _ => rfl
  have k1 := (hr.c 1).trans rfl
  have f1 := hr.f 1
  have hs1 : (w.setCell ⟨br, 1, none⟩ (.int .i32 1)).heap.size = w.heap.size := World.size_setCell _ _ _
  have hB1 : Below B w (w.setCell ⟨br, 1, none⟩ (.int .i32 1)) := (Below.refl _ _).setCell hB _
  have HR1 := Lib.hid hr1; clear hr1
  have HC1 := Lib.hid hc1; clear hc1
  have HB1 := Lib.hid hB1; clear hB1
  have HS1 := Lib.hid hs1; clear hs1
  clear hc hgr hr
  go_enter_defers Tryz.func207, Tryz.ntmps207
  go_wp2_with (first | (go_at_call 217; go_must (refine (lock_free ⟨br, 1, none⟩ _ k1 f1).mono ?_); rintro e w' ⟨rfl, rfl⟩) | (go_at_call 206; go_in) | (go_at_call 185; refine (buildOnce_q B br g cap 1 (w.setCell ⟨br, 1, none⟩ (.int .i32 1)) hB HR1.out HC1.out).mono ?_; rintro e w2 ⟨rfl, hbu⟩; have HBU := Lib.hid hbu; clear hbu))
  obtain ⟨bb, q1, q2, q3, q4⟩ := HBU.out
  have q5 : CB (w2.drew.setCell ⟨br, 0, none⟩ (.int .u32 1)) br 223 #[.int .u32 1, .int .i32 1, .int .u32 0, ifB bb, .slice none 0 0] := q1.drew.put 0 _
  have hfin : Built B br 1 0 w.heap.size w ((w2.drew.setCell ⟨br, 0, none⟩ (.int .u32 1)).setCell ⟨br, 1, none⟩ (.int .i32 0)) := by
    refine ⟨bb, q5.put 1 _, ?_, by rw [HS1.out] at q3; exact q3, ?_⟩
    · exact ((q2.below (Below.refl _ _).drew).set q1.drew rfl 0 _).set q5 rfl 1 _
    · exact ((HB1.out.trans q4).drew.setCell hB _).setCell hB _
  refine leaves_cons (f := 219) (args := #[.pointer (some ⟨br, 0, none⟩), .bool true]) (by simp) (by simp [go_sem]) ?_
  refine (store_deferred ⟨br, 0, none⟩ (.int .u32 0) .returning _ ((q1.c 0).trans rfl) (q1.f 0)).mono ?_
  rintro e u' w'' ⟨rfl, rfl, rfl⟩
  refine leaves_cons (f := 218) (args := #[.pointer (some ⟨br, 1, none⟩)]) (by simp [settle]) (by simp [go_sem]) ?_
  refine (unlock_deferred ⟨br, 1, none⟩ _ _ ((q5.c 1).trans rfl) (q5.f 1)).mono ?_
  rintro e u' w'' ⟨rfl, rfl, rfl⟩
  simp [Leaves, settle, results, Tryz.results207]
  exact hfin

set_option maxRecDepth 100000 in
set_option maxHeartbeats 2000000 in
theorem do_q (B br g cap : Nat) (w : World) (hB : B ≤ br) (hr : CB w br 223 #[.int .u32 0, .int .i32 0, .int .u32 0, .nilIface, .slice (some ⟨g, 0, none⟩) 8 cap])
    (hc : ∀ (j : Nat) (x : ByteArray), oldNew[j]? = some x → w.cell? ⟨g, j, none⟩ = some (.string x)) :
    Calls Tryz.prog 184 #[.pointer (some ⟨br, 0, none⟩), .func (.func 185) #[.pointer (some ⟨br, 0, none⟩)] #[]] w (fun e w' => e = .returned (.tuple #[]) ∧ Built B br 1 0 w.heap.size w w') := by
  have hl := run_call_load (P := Tryz.prog) Tryz.func216 (by kernel_rfl) (by kernel_rfl) (by kernel_rfl) .u32 (by kernel_rfl) (w := w) (a := ⟨br, 0, none⟩) (x := 0) ((hr.c 0).trans rfl)
  have hnot : ∀ (x : Bool) (w : World), (Op.unary .not (.bool x)).run Tryz.prog w = .ok (.bool (!x)) w := fun _ _ => rfl
  have HR := Lib.hid hr; clear hr
  have HC := Lib.hid hc; clear hc
  go_enter Tryz.func184, Tryz.ntmps184
  go_wp2_with (first | (go_at_call 206; go_in) | (go_at_call 207; refine (slow_q B br g cap w hB HR.out HC.out).mono ?_; rintro e w2 ⟨rfl, hbu⟩; have HBU := Lib.hid hbu; clear hbu))
  go_end0
  exact ⟨rfl, HBU.out⟩

set_option maxRecDepth 100000 in
set_option maxHeartbeats 2000000 in
theorem replace_q (B br g cap : Nat) (s : ByteArray) (w : World) (hB : B ≤ br) (hr : CB w br 223 #[.int .u32 0, .int .i32 0, .int .u32 0, .nilIface, .slice (some ⟨g, 0, none⟩) 8 cap])
    (hc : ∀ (j : Nat) (x : ByteArray), oldNew[j]? = some x → w.cell? ⟨g, j, none⟩ = some (.string x)) (hs : s.size ≤ 2097152) :
    Calls Tryz.prog 161 #[.pointer (some ⟨br, 0, none⟩), .string s] w (fun e w' => e = .returned (.string ⟨(escL s.data.toList).toArray⟩) ∧ Below B w w') := by
  have hmf : ∀ (fn : Fn) (first cap : Array Value) (w : World), (Instr.makeFunc fn first cap).run Tryz.prog w = .ok (.func fn first cap) w := fun _ _ _ _ => rfl
  have hlt := hr.lt
  have HR := Lib.hid hr; clear hr
  have HC := Lib.hid hc; clear hc
  go_enter Tryz.func161, Tryz.ntmps161
  go_wp2_with (first | (go_at_call 184; go_must (refine (do_q B br g cap w hB HR.out HC.out).mono ?_); rintro e w2 ⟨rfl, bb, q1, q2, q3, q4⟩; have k3 : w2.cell? ⟨br, 3, none⟩ = some (.iface 270 (.pointer (some ⟨bb, 0, none⟩))) := (q1.c 3).trans rfl; have Q1 := Lib.hid q1; clear q1; have Q2 := Lib.hid q2; clear q2; have Q4 := Lib.hid q4; clear q4) | (go_at_call 286; go_must (refine (bsr_q bb s w2 Q2.out hs).mono ?_); rintro e w3 ⟨rfl, hb3⟩; have HB3 := Lib.hid hb3; clear hb3))
  go_ret
  exact ⟨rfl, Q4.out.trans (HB3.out.mono (Nat.le_trans (Nat.le_of_lt (Nat.lt_of_le_of_lt hB hlt)) Q4.out.size))⟩

end Go.Proofs.YtbhildmalcfhiaaGreatDoor

namespace Go.Proofs.YtbhildmalcfhiaaGreatDoor
open Go.RowKit Go.Deep

theorem cell_laidE (w : World) (l : List ByteArray) (t k : Nat) (p : ByteArray) (h : l[k]? = some p) : (w.alloc (.cells (l.map Value.string).toArray t)).cell? ⟨w.heap.size, k, none⟩ = some (.string p) :=
  cell_new w (l.map Value.string) t w.heap.size rfl k _ (by simp [h])
theorem esc_cells (w : World) (cs : Array Value) (h : cs = (oldNew.map Value.string).toArray) (j : Nat) (x : ByteArray) (hj : oldNew[j]? = some x) : (w.alloc (.cells cs 9)).cell? ⟨w.heap.size, j, none⟩ = some (.string x) := by
  subst h
  exact cell_laidE w oldNew 9 j x hj

end Go.Proofs.YtbhildmalcfhiaaGreatDoor
